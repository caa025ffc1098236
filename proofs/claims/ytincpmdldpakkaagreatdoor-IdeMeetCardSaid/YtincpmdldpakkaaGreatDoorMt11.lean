/- Texts: Sm Vp Gl Vez. -/
import Derived.Test.YtincpmdldpakkaaGreatDoorMt10
import Derived.Test.YtincpmdldpakkaaGreatDoorMt06
import Derived.Shelf.RegionOpenPlain
import Derived.Lib.OwnBridge
namespace Go.Df.Sp
theorem super_nodes {ns : List Nd} {es : List Ed} {m e : Int} (h1 : ns.length ≤ 8192) (h2 : es.length ≤ 32768) (hn : nodesErr ns m = e) (h0 : e ≠ 0) : superErr ns es m = e:=by
 unfold superErr
 rw [if_neg (by omega),hn,if_pos h0]
theorem fe_in (err : Nat → Int) (n : Nat) : ∀ k,fe err k n = 0 ∨ ∃ i,k ≤ i ∧ i < k + n ∧ fe err k n = err i:=by
 induction n with
 | zero => intro k;exact .inl rfl
 | succ n ih =>
   intro k
   rw [fe]
   split
   · rcases ih (k + 1) with h | ⟨i,h1,h2,h3⟩
     · exact .inl h
     · exact .inr ⟨i,by omega,by omega,h3⟩
   · exact .inr ⟨k,by omega,by omega,rfl⟩
theorem starts_bad {ns : List Nd} {m : Int} (hn : ∀ x,x < ns.length → nodeErr ns x = 0) (h : ∃ j,j < ns.length ∧ cnt ns ns.length (gn ns j).f ≠ 3) : nodesErr ns m = 1:=by
 obtain ⟨j,hj,h3⟩:=h
 have h1 : wholeErr ns j = 1:=by rw [cnt_whole hn,if_neg h3]
 have h2 : fe (wholeErr ns) 0 ns.length = 1:=by
   rcases fe_in (wholeErr ns) ns.length 0 with h4 | ⟨i,_,_,h4⟩
   · have:=fe_zero _ _ h4 j (by omega) (by omega)
     omega
   · have h5 : fe (wholeErr ns) 0 ns.length ≠ 0 := fun h6 => by
       have:=fe_zero _ _ h6 j (by omega) (by omega)
       omega
     rw [h4] at h5 ⊢
     rw [cnt_whole hn] at h5 ⊢
     split
     · rename_i h7;rw [if_pos h7] at h5;exact absurd rfl h5
     · rfl
 unfold nodesErr
 rw [fe_ok ns.length 0 (fun i _ hi => hn i (by omega)),if_neg (by simp),h2,if_pos (by omega)]
theorem starts_ok {ns : List Nd} (hn : ∀ x,x < ns.length → nodeErr ns x = 0) (h : ∀ j,j < ns.length → cnt ns ns.length (gn ns j).f = 3) : ∀ x,x < ns.length → wholeErr ns x = 0:=fun x hx => by
 rw [cnt_whole hn,if_pos (h x hx)]
theorem node_kind {ns : List Nd} {j : Nat} (h : nodeErr ns j = 0) : 1 ≤ (gn ns j).k ∧ (gn ns j).k ≤ 4:=by
 unfold nodeErr at h
 split at h
 · cases h
 · omega
theorem field_ok {N : Nat} {ea eb ek ec : Int} (h : fieldErr N ea eb ek ec = 0) : 0 ≤ ea ∧ ea < N ∧ 0 ≤ eb ∧ eb < N ∧ 1 ≤ ek ∧ ek ≤ 5 ∧ (ek ≠ 1 → ek ≠ 5 → 0 ≤ ec ∧ ec < N):=by
 unfold fieldErr at h
 split at h
 · cases h
 · split at h
   · cases h
   · split at h
     · cases h
     · refine ⟨by omega,by omega,by omega,by omega,by omega,by omega,fun _ _ => by omega⟩
theorem match_is {ns : List Nd} {es : List Ed} (hn : ∀ x,x < ns.length → nodeErr ns x = 0) (h : ∀ j,j < ns.length → cnt ns ns.length (gn ns j).f = 3) {ea eb : Nat} {ek ec : Int} (ha : ea < ns.length) (h2 : 1 ≤ ek ∧ ek ≤ 5) :
   matchN ek ec ea (gn ns ea) (gn ns eb) (gn ns ec.toNat) (ent es es.length ec (lst ns ns.length (gn ns ea).f)) = fitsB ns es ⟨ea,eb,ek,ec⟩:=by
 have hw:=starts_ok hn h ea ha
 have hs : ∃ i,i < ns.length ∧ (gn ns i).f = (gn ns ea).f ∧ (gn ns i).k = 1:=by
   refine Classical.byContradiction (fun hh => ?_)
   have : kindAt ns (gn ns ea).f 1 < 0:=kind_neg.mpr (fun j hj h5 => hh ⟨j,hj,h5⟩)
   unfold wholeErr at hw
   rw [if_pos (Or.inl this)] at hw
   cases hw
 rw [ent_calls hn hs,match_fits (node_kind (hn ea ha)) h2]
 rfl
end Go.Df.Sp
namespace Go.Proofs.YtincpmdldpakkaaGreatDoor
open Go.RowKit Go.Df
attribute [local go_sem ↓] Go.wp_at_zero Go.wp_at_succ
set_option maxRecDepth 100000 in
set_option maxHeartbeats 8000000 in
theorem super_any (A1 A2 : Option Addr) (n1 c1 n2 c2 : Nat) (mn : Int) (ns : List Sp.Nd) (es : List Sp.Ed) (w : World) (hn : Nds w A1 n1 ns) (he : Eds w A2 n2 es)
   (hwn : ∀ j,j < n1 → (Lit.int .i64 (gn ns j).f).wf = true) (hwe : ∀ j,j < n2 → (Lit.int .i64 (ge es j).a).wf = true ∧ (Lit.int .i64 (ge es j).b).wf = true) :
   Calls Tryz.prog 72 #[.agg #[.slice A1 n1 c1,.slice A2 n2 c2,.int .i64 mn]] w fun e w' => e = .returned (.int .i64 (Sp.superErr ns es mn)) ∧ Below w.heap.size w w':=by
 have HN:=Lib.hid hn
 have HL:=Lib.hid hn.1
 have HE:=Lib.hid he
 have HLe:=Lib.hid he.1
 have HWN:=Lib.hid hwn
 have HWE:=Lib.hid hwe
 clear hn he hwn hwe
 by_cases t1 : 8192 < n1
 · have d1 : decide ((8192 : Int) < n1) = true:=by simp;omega
   go_enter Tryz.func72,Tryz.ntmps72
   go_wp2_with fail
   go_ret
   exact ⟨ret_int (by unfold Sp.superErr;rw [HL.out,if_pos (by omega)]),by go_grown⟩
 have d1 : decide ((8192 : Int) < n1) = false:=by simp;omega
 by_cases t2 : 32768 < n2
 · have d2 : decide ((32768 : Int) < n2) = true:=by simp;omega
   go_enter Tryz.func72,Tryz.ntmps72
   go_wp2_with fail
   go_ret
   exact ⟨ret_int (by unfold Sp.superErr;rw [HLe.out,if_pos (by omega)]),by go_grown⟩
 have d2 : decide ((32768 : Int) < n2) = false:=by simp;omega
 have h8 : Hid (ns.length ≤ 8192):=by show _ ≤ _;rw [HL.out];omega
 have h9 : Hid (es.length ≤ 32768):=by show _ ≤ _;rw [HLe.out];omega
 have hs : n1 ≤ 1000000:=by omega
 go_enter Tryz.func72,Tryz.ntmps72
 go_upto_region 1 with fail
 refine wp_named (fun W => ∃ b0,w.heap.size = b0 ∧ Blk W b0 [.slice A1 n1 c1,.slice A2 n2 c2,.int .i64 mn] ∧ Below w.heap.size w W) ⟨_,rfl,?_,?_⟩ ?_
 · exact kbn
 · go_grown
 rintro W ⟨b0,e0,B0,hB⟩
 rw [e0]
 have G0 : w.heap.size ≤ b0:=by omega
 clear e0
 have ⟨L0,C0,F0⟩:=B0
 have HW:=Lib.hid (HN.out.later hB)
 have hmm:=@run_makeMap Tryz.prog
 go_wp2_with fail
 go_loopw [26] (fun i wr => ∃ j : Nat,j ≤ n1 ∧ i = .int .i64 j ∧ Kept [] W wr ∧ Hid (∀ x,x < j → Sp.nodeErr ns x = 0)) (fun i _ => n1 - (intOf i).toNat)
 case atStart => exact ⟨0,Nat.zero_le _,rfl,Kept.refl _ _,Lib.hid (fun j hj => absurd hj (by omega))⟩
 case round =>
   obtain ⟨j,hj,rfl,hkr,hno⟩:=hrel
   have BR:=hkr.blk (by simp) B0
   have ⟨LR,CR,FR⟩:=BR
   clear C0 F0
   by_cases hlt : j < n1
   · obtain ⟨b,o,rfl,hl,hc⟩:=(HW.out.kept hkr).2 (by omega)
     obtain ⟨h1,h2,h3⟩:=hc j hlt
     have HC:=Lib.hid hc
     have LB:=Lib.hid hl
     clear hc
     obtain ⟨nf,nk,ni,en⟩ : ∃ nf nk ni,gn ns j = ⟨nf,nk,ni⟩:=⟨_,_,_,rfl⟩
     rw [en] at h1 h2 h3
     have HE:=Lib.hid en
     clear en
     go_upto_region 6 with fail
     refine wp_named (fun V => ∃ g,wr.heap.size = g ∧ Blk V g [.int .i64 nf,.int .i64 nk,.int .i64 ni] ∧ Kept [] wr V) ⟨_,rfl,Blk.new _ _ _ _ rfl,(Kept.refl _ _).alloc _⟩ ?_
     rintro V ⟨g,eg,Bg,hkV⟩
     rw [eg]
     have hkw : Kept [] W V:=keptTrans hkr hkV
     have BV:=hkw.blk (by simp) B0
     have ⟨LV,CV,FV⟩:=BV
     have ⟨LG,CG,FG⟩:=Bg
     have hBV:=hkw.below hB hB.size (by simp)
     clear CR FR h1 h2 h3 eg
     by_cases hk2 : nk = 2
     all_goals
       first
         | (have k1 : (nk == 2) = true:=by simpa using hk2)
         | (have k1 : (nk == 2) = false:=by simpa using hk2)
       first
         | (have k2 : (nk != 2) = false:=by simpa using hk2)
         | (have k2 : (nk != 2) = true:=by simpa using hk2)
       by_cases hi1 : ni = -1
       all_goals
         first
           | (have k3 : (ni != -1) = false:=by simpa using hi1)
           | (have k3 : (ni != -1) = true:=by simpa using hi1)
         have HK:=Lib.hid hk2
         have HI:=Lib.hid hi1
         clear hk2 hi1
         go_upto_region 10 with fail
         all_goals first
           | (go_ret;exact ⟨ret_int (Sp.super_nodes h8.out h9.out (Sp.nodes_node (m:=mn) (e:=12) hno.out (by rw [HL.out];exact hlt) (by unfold Sp.nodeErr;rw [HE.out];dsimp only;rw [if_pos (by have:=HK.out;have:=HI.out;omega)]) (by omega)) (by omega)).symm,hBV⟩)
           | (go_ret;exact ⟨ret_int (Sp.super_nodes h8.out h9.out (Sp.nodes_node (m:=mn) (e:=4) hno.out (by rw [HL.out];exact hlt) (by unfold Sp.nodeErr;rw [HE.out];dsimp only;rw [if_neg (by have:=HK.out;have:=HI.out;omega),if_pos (by have:=HK.out;have:=HI.out;omega)]) (by omega)) (by omega)).symm,hBV⟩)
           | skip
         all_goals
           have hz : Hid (Sp.nodeErr ns j = if 0 < j ∧ Sp.lessN (gn ns (j - 1)) ⟨nf,nk,ni⟩ = false then 13 else 0):=by
             show Sp.nodeErr ns j = _
             unfold Sp.nodeErr
             rw [HE.out]
             dsimp only
             rw [if_neg (by have:=HK.out;have:=HI.out;omega),if_neg (by have:=HK.out;have:=HI.out;omega)]
           have hno1 : Hid (Sp.nodeErr ns j = 0 → ∀ x,x < j + 1 → Sp.nodeErr ns x = 0):=fun h0 x hx => by
             rcases Nat.lt_or_ge x j with h9 | h9
             · exact hno.out x h9
             · obtain rfl : x = j:=by omega
               exact h0
           by_cases hj0 : j = 0
           · have y1 : decide (0 < j) = false:=by simp;omega
             have y2 : decide ((0 : Int) < (j : Int)) = false:=by simp;omega
             have hfin : Hid (∀ x,x < j + 1 → Sp.nodeErr ns x = 0):=hno1.out (by rw [hz.out,if_neg (by omega)])
             clear hj0
             go_quiet (fail)
             go_wp2_with fail
             exact ⟨⟨j + 1,by omega,by go_num,hkw.drewN _,hfin⟩,by simp [intOf];omega⟩
           · have y1 : decide (0 < j) = true:=by simp;omega
             have y2 : decide ((0 : Int) < (j : Int)) = true:=by simp;omega
             have y3 : IntKind.i64.wrap ((j : Int) - 1) = (j : Int) - 1:=IntWalk.i64_in _ (by omega)
             have y4 : (0 : Int) ≤ (j : Int) - 1:=by omega
             have y5 : ((j : Int) - 1).toNat = j - 1:=by omega
             have y6 : (j : Int) - 1 < (n1 : Int):=by omega
             have y7 : 0 < j:=by omega
             have y8 : 1 ≤ j:=by omega
             have y9 : (1 : Int) ≤ (j : Int):=by omega
             have y10 : j ≤ n1:=by omega
             have y11 : j < n1 + 1:=by omega
             have y12 : (j : Int) < (n1 : Int) + 1:=by omega
             have y13 : (j : Int) ≤ (n1 : Int):=by omega
             obtain ⟨p1,p2,p3⟩:=HC.out (j - 1) (by omega)
             obtain ⟨pf,pk,pi,ep⟩ : ∃ pf pk pi,gn ns (j - 1) = ⟨pf,pk,pi⟩:=⟨_,_,_,rfl⟩
             rw [ep] at p1 p2 p3
             have q1 : V.cell? ⟨b,o + (j - 1) * 3,none⟩ = some (.int .i64 pf):=(hkV.cell b _ LB.out (by simp)).trans p1
             have q2 : V.cell? ⟨b,o + (j - 1) * 3 + 1,none⟩ = some (.int .i64 pk):=(hkV.cell b _ LB.out (by simp)).trans p2
             have q3 : V.cell? ⟨b,o + (j - 1) * 3 + 2,none⟩ = some (.int .i64 pi):=(hkV.cell b _ LB.out (by simp)).trans p3
             have hbV : b < V.heap.size:=Nat.lt_of_lt_of_le LB.out hkV.size
             have HPe:=Lib.hid ep
             clear p1 p2 p3 ep hj0
             go_cut [74] (fun s wx => s = .bool (!Sp.lessN ⟨pf,pk,pi⟩ ⟨nf,nk,ni⟩) ∧ Kept [] V wx)
             case first =>
               go_region_held3 (fun w' => SX0 V w') (exact kp0)
                 (first | (go_at_call 123;((with_reducible refine (orderNode_any pf pk pi nf nk ni _).mono ?_));rintro e w3 ⟨rfl,hb3⟩;obtain ⟨hc3,hf3,hg3⟩:=bcell hb3;have hz3:=hb3.size;try simp at hz3))
               all_goals
                 go_wp2_with fail
                 go_meet
                 refine ⟨congrArg Value.bool (Sp.ordN_ge _ _),?_⟩
                 (exact kpt0)
             case rest =>
               obtain ⟨rfl,hkc⟩:=hcut
               have hkwc : Kept [] W wc:=keptTrans hkw hkc
               have hBc:=hkwc.below hB hB.size (by simp)
               by_cases hles : Sp.lessN ⟨pf,pk,pi⟩ ⟨nf,nk,ni⟩ = true
               · rw [hles]
                 have hfin : Hid (∀ x,x < j + 1 → Sp.nodeErr ns x = 0):=hno1.out (by rw [hz.out,HPe.out,hles,if_neg (by simp)])
                 clear hles
                 go_wp2_with fail
                 exact ⟨⟨j + 1,by omega,by go_num,hkwc,hfin⟩,by simp [intOf];omega⟩
               · rw [Bool.not_eq_true] at hles
                 rw [hles]
                 have hfin : Hid (Sp.nodeErr ns j = 13):=by
                   show Sp.nodeErr ns j = 13
                   rw [hz.out,HPe.out,hles,if_pos ⟨by omega,rfl⟩]
                 clear hles
                 go_wp2_with fail
                 go_ret
                 exact ⟨ret_int (Sp.super_nodes h8.out h9.out (Sp.nodes_node (m:=mn) hno.out (by rw [HL.out];exact hlt) hfin.out (by omega)) (by omega)).symm,hBc⟩
   · obtain rfl : j = n1:=by omega
     have hall : Hid (∀ x,x < ns.length → Sp.nodeErr ns x = 0):=fun x hx => hno.out x (by rw [HL.out] at hx;exact hx)
     clear hno hlt
     go_wp2_with fail
     refine (starts_any _ _ _ _ _ _ _ ns _ (HW.out.kept hkr) hs HWN.out).mono ?_
     rintro e ws ⟨hbs,hcase⟩
     have hks : Kept [] W ws:=hkr.call hbs
     have BS:=hks.blk (by simp) B0
     have ⟨LS,CS,FS⟩:=BS
     have hBs:=hks.below hB hB.size (by simp)
     have hWs:=hkr.size
     clear CR FR
     rcases hcase with ⟨hbad,rfl⟩ | ⟨hgood,p,hp,rfl,Mp⟩
     · have hfin:=Lib.hid (Sp.super_nodes h8.out h9.out (Sp.starts_bad (m:=mn) hall.out (by rw [HL.out];exact hbad)) (by omega))
       clear hbad
       go_wp2_with fail
       go_ret
       exact ⟨ret_int hfin.out.symm,hBs⟩
     have hok : Hid (∀ x,x < ns.length → Sp.cnt ns ns.length (gn ns x).f = 3):=by
       show ∀ x,_
       rw [HL.out];exact hgood
     have hm : Hid (Sp.nodesErr ns mn = if mn < 0 ∨ (j : Int) ≤ mn ∨ (gn ns mn.toNat).k ≠ 1 then 14 else 0):=by
       show Sp.nodesErr ns mn = _
       rw [Sp.nodes_main hall.out (Sp.starts_ok hall.out hok.out),Sp.mainErr,HL.out]
     have MP:=Lib.hid Mp
     have hpl:=Mp.lt
     have hps : Hid (W.heap.size ≤ p):=by show _ ≤ _;omega
     clear hgood Mp hp
     by_cases m0 : mn < 0
     · have z1 : decide (mn < 0) = true:=by simpa using m0
       go_wp2_with fail
       go_ret
       exact ⟨ret_int (Sp.super_nodes h8.out h9.out (show Sp.nodesErr ns mn = 14 by rw [hm.out,if_pos (by omega)]) (by omega)).symm,hBs⟩
     have z1 : decide (mn < 0) = false:=by simpa using m0
     by_cases m1 : (j : Int) ≤ mn
     · have z2 : decide ((j : Int) ≤ mn) = true:=by simpa using m1
       go_wp2_with fail
       go_ret
       exact ⟨ret_int (Sp.super_nodes h8.out h9.out (show Sp.nodesErr ns mn = 14 by rw [hm.out,if_pos (by omega)]) (by omega)).symm,hBs⟩
     have z2 : decide ((j : Int) ≤ mn) = false:=by simpa using m1
     obtain ⟨mm,rfl⟩:=Int.eq_ofNat_of_zero_le (show 0 ≤ mn by omega)
     obtain ⟨b,o,rfl,hl,hc⟩:=(HW.out.kept hks).2 (by omega)
     obtain ⟨h1,h2,h3⟩:=hc mm (by omega)
     clear hc h1 h3
     have hmm2 : mm < j:=by omega
     have z4 : decide (j ≤ mm) = false:=by simp;omega
     rw [Int.toNat_natCast] at hm
     by_cases m2 : (gn ns mm).k = 1
     case neg =>
       have z3 : ((gn ns mm).k != 1) = true:=by simp [m2]
       have M2:=Lib.hid m2
       clear m2
       go_wp2_with fail
       go_ret
       exact ⟨ret_int (Sp.super_nodes h8.out h9.out (show Sp.nodesErr ns mm = 14 by rw [hm.out,if_pos (.inr (.inr M2.out))]) (by omega)).symm,hBs⟩
     have z3 : ((gn ns mm).k != 1) = false:=by simp [m2]
     have HNe : Hid (Sp.nodesErr ns mm = 0):=by
       show Sp.nodesErr ns mm = 0
       rw [hm.out,if_neg (by omega)]
     clear m2 hm
     go_upto_region 19 with fail
     refine wp_named (fun X => ∃ q,ws.heap.size = q ∧ MapV Tryz.prog 220 4 (.bool false) X q 0 (fun _ => .bool false) ∧ Kept [] ws X) ⟨_,rfl,MapV.made _ _ _ _ _ _ rfl,(Kept.refl _ _).alloc _⟩ ?_
     rintro X ⟨q,eq,Mq,hkX⟩
     rw [eq]
     have hql:=Mq.lt
     have hpq : p ≠ q:=by omega
     have hqW : W.heap.size ≤ q:=by have:=hks.size;omega
     have hb0q : b0 ≠ q:=by omega
     have MPX:=Lib.hid (MP.out.kept hkX (by simp))
     have MQ:=Lib.hid Mq
     have hkWX : Kept [] W X:=keptTrans hks hkX
     have BX:=hkWX.blk (by simp) B0
     have ⟨LX,CX,FX⟩:=BX
     clear CS FS h2 hl eq Mq hkX MP
     go_wp2_with fail
     go_loopw [108] (fun i wr => ∃ k : Nat,k ≤ n2 ∧ i = .int .i64 k ∧ Kept [q] X wr ∧ Hid (MapV Tryz.prog 220 4 (.bool false) wr q k (mb (Sp.ent es k)))) (fun i _ => n2 - (intOf i).toNat)
     case atStart => exact ⟨0,Nat.zero_le _,rfl,Kept.refl _ _,Lib.hid (MQ.out.ext (fun key _ _ => by unfold mb;split <;> first | rfl | (unfold mbl;split <;> rfl)))⟩
     case round =>
       rename World => y
       obtain ⟨k,hk,rfl,hky,my⟩:=hrel
       have hkWy : Kept [] W y:=hkWX.next hky (by simp;omega)
       have hBy:=hkWy.below hB hB.size (by simp)
       by_cases hlt : k < n2
       · obtain ⟨b',o',rfl,hl,hc⟩:=(HE.out.later hBy).2 (by omega)
         obtain ⟨h1,h2,h3,h4⟩:=hc k hlt
         clear hc
         obtain ⟨wa,wb⟩:=HWE.out k hlt
         obtain ⟨ea,eb,ek,ec,en⟩ : ∃ ea eb ek ec,ge es k = ⟨ea,eb,ek,ec⟩:=⟨_,_,_,_,rfl⟩
         rw [en] at h1 h2 h3 h4 wa wb
         have HEe:=Lib.hid en
         obtain ⟨kl,hkl⟩:=Tryz.keyEdge ea eb wa wb
         have HK:=Lib.hid hkl
         clear en hkl wa wb
         go_upto_region 22 with fail
         refine wp_named (fun V => ∃ g,y.heap.size = g ∧ Blk V g [.int .i64 ea,.int .i64 eb,.int .i64 ek,.int .i64 ec] ∧ Kept [] y V) ⟨_,rfl,Blk.new _ _ _ _ rfl,(Kept.refl _ _).alloc _⟩ ?_
         rintro V ⟨g,eg,Bg,hkV⟩
         rw [eg]
         have ⟨LG,CG,FG⟩:=Bg
         have myV:=Lib.hid (my.out.kept hkV (by simp))
         have hkXV : Kept [q] X V:=hky.next hkV (by simp)
         have hkWV : Kept [] W V:=keptTrans hkWy hkV
         clear h1 h2 h3 h4 eg my
         by_cases e2 : ek = 2
         · have e2' : (ek == 2) = true:=by simpa using e2
           have HG1:=Lib.hid (show mb (Sp.ent es (k + 1)) (.agg #[.int .i64 ea,.int .i64 eb]) = .bool true from congrArg Lit.bool (by rw [Sp.ent,HEe.out];simp [e2]))
           have HG2:=Lib.hid (mb_put (g:=Sp.ent es k) (g':=Sp.ent es (k + 1)) (a:=ea) (b:=eb) (fun x z hx => by rw [Sp.ent,HEe.out,if_neg (fun hh => hx ⟨hh.2.1.symm,hh.2.2.symm⟩)]))
           clear e2
           go_wp2_with (first
             | (at_mapUpdate;refine wpList_store_map _ rfl _ _ _ 218 rfl 220 4 Tryz.lawEdge Tryz.mapEB (.bool false) q k _ rfl myV.out (by unfold maxLen;omega) (.agg #[.int .i64 ea,.int .i64 eb]) (.bool true) _ _ rfl rfl HK.out (plainElem_bool Tryz.undBool true) (mb (Sp.ent es (k + 1))) HG1.out HG2.out ?_;intro w1 M1u hs1;have M1:=Lib.hid M1u;clear M1u)
             | go_in)
           go_roundw
           case rel => exact ⟨k + 1,by omega,by go_num,hkXV.next hs1 (by simp),M1⟩
           case measure => simp [intOf];omega
         · have e2' : (ek == 2) = false:=by simpa using e2
           have HG:=Lib.hid (show mb (Sp.ent es k) = mb (Sp.ent es (k + 1)) from congrArg mb (funext (fun x => funext (fun z => by rw [Sp.ent,HEe.out,if_neg (fun hh => e2 hh.1)]))))
           clear e2
           go_wp2_with fail
           exact ⟨⟨k + 1,by omega,by go_num,hkXV,Lib.hid (HG.out ▸ myV.out.mono (Nat.le_succ k))⟩,by simp [intOf];omega⟩
       · obtain rfl : k = n2:=by omega
         clear hlt
         have BY:=hkWy.blk (by simp) B0
         have ⟨LY,CY,FY⟩:=BY
         have mpy:=Lib.hid (MPX.out.kept hky (by simp;omega))
         clear CX FX
         go_wp2_with fail
         go_loopw [125] (fun i wz => ∃ x : Nat,x ≤ k ∧ i = .int .i64 x ∧ Kept [] y wz ∧ Hid (∀ z,z < x → Sp.edgeErr ns es z = 0)) (fun i _ => k - (intOf i).toNat)
         case atStart => exact ⟨0,Nat.zero_le _,rfl,Kept.refl _ _,Lib.hid (fun z hz => absurd hz (by omega))⟩
         case round =>
           rename World => wr
           obtain ⟨x,hx,rfl,hkr2,hno⟩:=hrel
           have hkWr : Kept [] W wr:=keptTrans hkWy hkr2
           have hBr:=hkWr.below hB hB.size (by simp)
           have BR:=hkWr.blk (by simp) B0
           have ⟨LR2,CR,FR⟩:=BR
           clear CY FY
           by_cases hlt : x < k
           case neg =>
             go_wp2_with fail
             go_ret
             exact ⟨ret_int (Sp.super_ok h8.out h9.out HNe.out (fun z hz => hno.out z (by rw [HLe.out] at hz;omega))).symm,hBr⟩
           obtain ⟨b',o',rfl,hl,hc⟩:=(HE.out.later hBr).2 (by omega)
           obtain ⟨h1,h2,h3,h4⟩:=hc x hlt
           have HC:=Lib.hid hc
           have LB:=Lib.hid hl
           clear hc
           obtain ⟨ea,eb,ek,ec,en⟩ : ∃ ea eb ek ec,ge es x = ⟨ea,eb,ek,ec⟩:=⟨_,_,_,_,rfl⟩
           rw [en] at h1 h2 h3 h4
           have HEe:=Lib.hid en
           clear en
           go_upto_region 28 with fail
           refine wp_named (fun V => ∃ g,wr.heap.size = g ∧ Blk V g [.int .i64 ea,.int .i64 eb,.int .i64 ek,.int .i64 ec] ∧ Kept [] wr V) ⟨_,rfl,Blk.new _ _ _ _ rfl,(Kept.refl _ _).alloc _⟩ ?_
           rintro V ⟨g,eg,Bg,hkV⟩
           rw [eg]
           have hkWV : Kept [] W V:=keptTrans hkWr hkV
           have hkyV : Kept [] y V:=keptTrans hkr2 hkV
           have BV:=hkWV.blk (by simp) B0
           have ⟨LV,CV,FV⟩:=BV
           have ⟨LG,CG,FG⟩:=Bg
           clear CR FR h1 h2 h3 h4 eg
           have hbad : Hid (∀ e,Sp.edgeErr ns es x = e → e ≠ 0 → Sp.superErr ns es mm = e):=fun e h1 h2 => Sp.super_edge h8.out h9.out HNe.out hno.out (by rw [HLe.out];exact hlt) h1 h2
           have hstep : Hid (Sp.edgeErr ns es x = 0 → ∀ z,z < x + 1 → Sp.edgeErr ns es z = 0):=fun h0 z hz => by
             rcases Nat.lt_or_ge z x with h9 | h9
             · exact hno.out z h9
             · obtain rfl : z = x:=by omega
               exact h0
           obtain ⟨fr,hfr⟩ : ∃ fr,Sp.fieldErr j ea eb ek ec = fr:=⟨_,rfl⟩
           have HEr : Hid (Sp.edgeErr ns es x = (if fr ≠ 0 then fr else if 0 < x ∧ Sp.lessE (ge es (x - 1)) ⟨ea,eb,ek,ec⟩ = false then 13 else if Sp.fitsB ns es ⟨ea,eb,ek,ec⟩ = false then 20 else 0)):=by
             show Sp.edgeErr ns es x = _
             rw [Sp.edge_field,HEe.out,HL.out,hfr]
           go_wp2_with fail
           refine (check_any _ _ _ _ _ _ _ ea eb ek ec _).mono ?_
           rintro e w5 ⟨rfl,hb5⟩
           rw [hfr]
           have hkV5 : Kept [] V w5:=(Kept.refl _ _).call hb5
           have hkW5 : Kept [] W w5:=keptTrans hkWV hkV5
           have hky5 : Kept [] y w5:=keptTrans hkyV hkV5
           have hB5:=hkW5.below hB hB.size (by simp)
           have B5:=hkW5.blk (by simp) B0
           have ⟨L5,C5,F5⟩:=B5
           have G5:=hkV5.blk (by simp) Bg
           have ⟨LG5,CG5,FG5⟩:=G5
           clear CV FV CG FG
           by_cases hf0 : fr = 0
           case neg =>
             have hf0' : (fr != 0) = true:=by simpa using hf0
             have hE:=Lib.hid (hbad.out fr (by rw [HEr.out,if_pos hf0]) hf0)
             clear hf0 hfr
             go_wp2_with fail
             go_ret
             exact ⟨ret_int hE.out.symm,hB5⟩
           subst hf0
           obtain ⟨v1,v2,v3,v4,v5,v6,v7⟩:=Sp.field_ok hfr
           have HC2:=Lib.hid v7
           have HEy : Hid (Sp.edgeErr ns es x = (if 0 < x ∧ Sp.lessE (ge es (x - 1)) ⟨ea,eb,ek,ec⟩ = false then 13 else if Sp.fitsB ns es ⟨ea,eb,ek,ec⟩ = false then 20 else 0)):=by
             show Sp.edgeErr ns es x = _
             rw [HEr.out,if_neg (by simp)]
           clear hfr HEr v7
           obtain ⟨na,rfl⟩:=Int.eq_ofNat_of_zero_le v1
           obtain ⟨nb,rfl⟩:=Int.eq_ofNat_of_zero_le v3
           have HMT : Hid (Sp.matchN ek ec na (gn ns na) (gn ns nb) (gn ns ec.toNat) (Sp.ent es k ec (Sp.lst ns j (gn ns na).f)) = Sp.fitsB ns es ⟨na,nb,ek,ec⟩):=by
             show Sp.matchN _ _ _ _ _ _ _ = _
             have:=Sp.match_is (es:=es) hall.out hok.out (ea:=na) (eb:=nb) (ek:=ek) (ec:=ec) (by rw [HL.out];omega) ⟨v5,v6⟩
             rw [HL.out,HLe.out] at this
             exact this
           have HST : Hid (∀ z,0 ≤ Sp.lst ns j z ∧ Sp.lst ns j z ≤ 1000000):=fun z => by have:=Sp.lst_le ns z j;omega
           have hna : na < j:=by omega
           have hnb : nb < j:=by omega
           clear v1 v2 v3 v4
           by_cases hx0 : x = 0
           · have y1 : decide (0 < x) = false:=by simp;omega
             have y2 : decide ((0 : Int) < (x : Int)) = false:=by simp;omega
             have HEz : Hid (Sp.edgeErr ns es x = (if Sp.fitsB ns es ⟨na,nb,ek,ec⟩ = false then 20 else 0)):=by
               show Sp.edgeErr ns es x = _
               rw [HEy.out,if_neg (by omega)]
             clear hx0
             go_upto_region 31 with fail
             go_quiet (fail)
             go_wp2_with fail
             refine (matches_any _ _ _ _ _ _ _ p q j k na nb ek ec ns (Sp.lst ns j) (Sp.ent es k) _ (HN.out.later ((hkW5.drewN _).below hB hB.size (by simp))) hs hna hnb (fun a1 a2 _ => HC2.out a1 a2) HWN.out HST.out (mpy.out.kept (hky5.drewN _) (by simp)) (my.out.kept (hky5.drewN _) (by simp))).mono ?_
             rintro e w6 ⟨rfl,hb6⟩
             rw [HMT.out]
             have hkW6 : Kept [] W w6:=(hkW5.drewN _).call hb6
             have hky6 : Kept [] y w6:=(hky5.drewN _).call hb6
             have hB6:=hkW6.below hB hB.size (by simp)
             by_cases hfi : Sp.fitsB ns es ⟨na,nb,ek,ec⟩ = true
             · rw [hfi]
               have hfin:=Lib.hid (hstep.out (by rw [HEz.out,hfi];rfl))
               clear hfi
               go_wp2_with fail
               go_roundw
               case rel => exact ⟨x + 1,by omega,by go_num,hky6,hfin⟩
               case measure => simp [intOf];omega
             · rw [Bool.not_eq_true] at hfi
               rw [hfi]
               have hE : Hid (Sp.superErr ns es mm = 20):=Lib.hid (hbad.out 20 (by rw [HEz.out,hfi];rfl) (by omega))
               clear hfi
               go_wp2_with fail
               go_ret
               exact ⟨ret_int hE.out.symm,hB6⟩
           · have y1 : decide (0 < x) = true:=by simp;omega
             have y2 : decide ((0 : Int) < (x : Int)) = true:=by simp;omega
             have y3 : IntKind.i64.wrap ((x : Int) - 1) = (x : Int) - 1:=IntWalk.i64_in _ (by omega)
             have y4 : (0 : Int) ≤ (x : Int) - 1:=by omega
             have y5 : ((x : Int) - 1).toNat = x - 1:=by omega
             have y6 : (x : Int) - 1 < (k : Int):=by omega
             have y7 : 0 < x:=by omega
             have y8 : 1 ≤ x:=by omega
             have y9 : (1 : Int) ≤ (x : Int):=by omega
             have y10 : x ≤ k:=by omega
             have y11 : x < k + 1:=by omega
             have y12 : (x : Int) < (k : Int) + 1:=by omega
             have y13 : (x : Int) ≤ (k : Int):=by omega
             obtain ⟨p1,p2,p3,p4⟩:=HC.out (x - 1) (by omega)
             obtain ⟨pa,pb,pk,pc,ep⟩ : ∃ pa pb pk pc,ge es (x - 1) = ⟨pa,pb,pk,pc⟩:=⟨_,_,_,_,rfl⟩
             rw [ep] at p1 p2 p3 p4
             have hkr5 : Kept [] wr w5:=keptTrans hkV hkV5
             have q1 : w5.cell? ⟨b',o' + (x - 1) * 4,none⟩ = some (.int .i64 pa):=(hkr5.cell b' _ LB.out (by simp)).trans p1
             have q2 : w5.cell? ⟨b',o' + (x - 1) * 4 + 1,none⟩ = some (.int .i64 pb):=(hkr5.cell b' _ LB.out (by simp)).trans p2
             have q3 : w5.cell? ⟨b',o' + (x - 1) * 4 + 2,none⟩ = some (.int .i64 pk):=(hkr5.cell b' _ LB.out (by simp)).trans p3
             have q4 : w5.cell? ⟨b',o' + (x - 1) * 4 + 3,none⟩ = some (.int .i64 pc):=(hkr5.cell b' _ LB.out (by simp)).trans p4
             have hbV : b' < w5.heap.size:=Nat.lt_of_lt_of_le LB.out hkr5.size
             have HPe:=Lib.hid ep
             clear p1 p2 p3 p4 ep hx0
             have HEx : Hid (Sp.edgeErr ns es x = (if Sp.lessE ⟨pa,pb,pk,pc⟩ ⟨na,nb,ek,ec⟩ = false then 13 else if Sp.fitsB ns es ⟨na,nb,ek,ec⟩ = false then 20 else 0)):=by
               show Sp.edgeErr ns es x = _
               rw [HEy.out,HPe.out]
               simp [y7]
             go_upto_region 31 with fail
             go_cut [148] (fun s wx => s = .bool (!Sp.lessE ⟨pa,pb,pk,pc⟩ ⟨na,nb,ek,ec⟩) ∧ Kept [] w5 wx)
             case first =>
               go_region_held3 (fun w' => SX0 w5 w') (exact kp0)
                 (first | (go_at_call 126;((with_reducible refine (orderEdge_any pa pb pk pc na nb ek ec _).mono ?_));rintro e w3 ⟨rfl,hb3⟩;obtain ⟨hc3,hf3,hg3⟩:=bcell hb3;have hz3:=hb3.size;try simp at hz3))
               all_goals
                 go_wp2_with fail
                 go_meet
                 refine ⟨congrArg Value.bool (Sp.ordE_ge _ _),?_⟩
                 (exact kpt0)
             case rest =>
               obtain ⟨rfl,hkc⟩:=hcut
               have hkWc : Kept [] W wc:=keptTrans hkW5 hkc
               have hkyc : Kept [] y wc:=keptTrans hky5 hkc
               have hBc:=hkWc.below hB hB.size (by simp)
               have BC:=hkc.blk (by simp) G5
               have ⟨LC,CC,FC⟩:=BC
               have BD:=hkc.blk (by simp) B5
               have ⟨LD,CD,FD⟩:=BD
               clear CG5 FG5 C5 F5 q1 q2 q3 q4
               by_cases hles : Sp.lessE ⟨pa,pb,pk,pc⟩ ⟨na,nb,ek,ec⟩ = true
               · rw [hles]
                 have HEz : Hid (Sp.edgeErr ns es x = (if Sp.fitsB ns es ⟨na,nb,ek,ec⟩ = false then 20 else 0)):=by
                   show Sp.edgeErr ns es x = _
                   rw [HEx.out,hles,if_neg (by simp)]
                 clear hles
                 go_wp2_with fail
                 refine (matches_any _ _ _ _ _ _ _ p q j k na nb ek ec ns (Sp.lst ns j) (Sp.ent es k) _ (HN.out.later ((hkWc).below hB hB.size (by simp))) hs hna hnb (fun a1 a2 _ => HC2.out a1 a2) HWN.out HST.out (mpy.out.kept (hkyc) (by simp)) (my.out.kept (hkyc) (by simp))).mono ?_
                 rintro e w6 ⟨rfl,hb6⟩
                 rw [HMT.out]
                 have hkW6 : Kept [] W w6:=(hkWc).call hb6
                 have hky6 : Kept [] y w6:=(hkyc).call hb6
                 have hB6:=hkW6.below hB hB.size (by simp)
                 by_cases hfi : Sp.fitsB ns es ⟨na,nb,ek,ec⟩ = true
                 · rw [hfi]
                   have hfin:=Lib.hid (hstep.out (by rw [HEz.out,hfi];rfl))
                   clear hfi
                   go_wp2_with fail
                   go_roundw
                   case rel => exact ⟨x + 1,by omega,by go_num,hky6,hfin⟩
                   case measure => simp [intOf];omega
                 · rw [Bool.not_eq_true] at hfi
                   rw [hfi]
                   have hE : Hid (Sp.superErr ns es mm = 20):=Lib.hid (hbad.out 20 (by rw [HEz.out,hfi];rfl) (by omega))
                   clear hfi
                   go_wp2_with fail
                   go_ret
                   exact ⟨ret_int hE.out.symm,hB6⟩
               · rw [Bool.not_eq_true] at hles
                 rw [hles]
                 have hE : Hid (Sp.superErr ns es mm = 13):=Lib.hid (hbad.out 13 (by rw [HEx.out,hles];rfl) (by omega))
                 clear hles
                 go_wp2_with fail
                 go_ret
                 exact ⟨ret_int hE.out.symm,hBc⟩
end Go.Proofs.YtincpmdldpakkaaGreatDoor
namespace Go.Df
open Go.RowKit
namespace Sp
def chkErr (ns : List Nd) (es : List Ed) (m fr : Int) : Int:=if superErr ns es m ≠ 0 then superErr ns es m else if fr < 0 ∨ (ns.length : Int) ≤ fr then 4 else 0
def stepS (es : List Ed) (at_ : Int) (cs : List Int) (k : Int) : Int × Int × List Int :=
 if k < 0 ∨ (es.length : Int) ≤ k then (4,0,[])
 else if (ge es k.toNat).a ≠ at_ then (16,0,[])
 else if (ge es k.toNat).k = 3 ∨ (ge es k.toNat).k = 4 then (if cs = [] ∨ gi cs 0 ≠ (ge es k.toNat).c then (20,0,[]) else (0,(ge es k.toNat).b,cs.tail))
 else if (ge es k.toNat).k = 2 then (0,(ge es k.toNat).b,at_ :: cs) else (0,(ge es k.toNat).b,cs)
def runS (es : List Ed) : Int → List Int → List Int → Int × Int × List Int
 | a,cs,[] => (0,a,cs)
 | a,cs,k :: r => if (stepS es a cs k).1 ≠ 0 then ((stepS es a cs k).1,0,[]) else runS es (stepS es a cs k).2.1 (stepS es a cs k).2.2 r
def followS (ns : List Nd) (es : List Ed) (m fr : Int) (path : List Int) : Int × Int × List Int :=
 if chkErr ns es m fr ≠ 0 then (chkErr ns es m fr,0,[]) else if 4096 < path.length then (3,0,[]) else runS es fr [] path
theorem stepS_err {es : List Ed} {a k : Int} {cs : List Int} (h : (stepS es a cs k).1 ≠ 0) : stepS es a cs k = ((stepS es a cs k).1,0,[]):=by
 unfold stepS at *
 (repeat' split) <;> simp_all
theorem drop_gi {l : List Int} {j : Nat} (h : j < l.length) : l.drop j = gi l j :: l.drop (j + 1):=by
 rw [gi_lt h]
 exact List.drop_eq_getElem_cons h
end Sp
theorem BlkN.drewN {w : World} {b n : Nat} (h : BlkN w b n) (q : Nat) : BlkN (w.drewN q) b n:=h
def Pend (w : World) : Option Addr → List Int → Prop
 | p,[] => p = none
 | p,c :: r => ∃ b q,p = some ⟨b,0,none⟩ ∧ Blk w b [.int .i64 c,.pointer q] ∧ Pend w q r
end Go.Df
namespace Go.Df
open Go.RowKit
theorem kbo {p : Prop} (h : p:=by (repeat' first | (with_reducible assumption) | (with_reducible refine Blk.drew ?_) | (with_reducible refine Blk.set2 ?_) | (with_reducible exact Blk.n (by assumption) rfl) | (with_reducible refine BlkN.drewN ?_ _) | (with_reducible refine BlkN.drew ?_) | (with_reducible refine BlkN.alloc ?_ _) | (with_reducible refine Blk.alloc ?_ _))) : p:=h
theorem Sp.chk_ok {ns : List Sp.Nd} {es : List Sp.Ed} {m fr : Int} (h : Sp.chkErr ns es m fr = 0) : Sp.superErr ns es m = 0 ∧ 0 ≤ fr ∧ fr < ns.length:=by
 unfold Sp.chkErr at h
 split at h
 · rename_i h1;exact absurd h h1
 · rename_i h1
   split at h
   · cases h
   · exact ⟨Classical.not_not.mp h1,by omega,by omega⟩
theorem Sp.super_len {ns : List Sp.Nd} {es : List Sp.Ed} {m : Int} (h : Sp.superErr ns es m = 0) : ns.length ≤ 8192 ∧ es.length ≤ 32768:=by
 unfold Sp.superErr at h
 split at h
 · cases h
 · omega
def rv (xs : List Int) (n i x : Nat) : Int:=if x < i ∨ n - 1 - i < x then gi xs (n - 1 - x) else gi xs x
theorem gi_rev {xs : List Int} {x : Nat} (h : x < xs.length) : gi xs.reverse x = gi xs (xs.length - 1 - x):=by
 rw [gi_lt (by simpa using h),gi_lt (by omega),List.getElem_reverse]
end Go.Df
