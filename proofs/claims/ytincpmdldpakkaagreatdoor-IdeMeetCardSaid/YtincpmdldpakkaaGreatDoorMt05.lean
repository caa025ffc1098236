/- Texts: Sh Sj. -/
import Derived.Test.YtincpmdldpakkaaGreatDoorMt04
namespace Go.Df.Sp
def edgeErr (ns : List Nd) (es : List Ed) (j : Nat) : Int :=
 if (ge es j).a < 0 ∨ (ns.length : Int) ≤ (ge es j).a ∨ (ge es j).b < 0 ∨ (ns.length : Int) ≤ (ge es j).b then 4
 else if (ge es j).k < 1 ∨ 5 < (ge es j).k then 12
 else if (((ge es j).k = 1 ∨ (ge es j).k = 5) ∧ (ge es j).c ≠ -1) ∨ ((ge es j).k ≠ 1 ∧ (ge es j).k ≠ 5 ∧ ((ge es j).c < 0 ∨ (ns.length : Int) ≤ (ge es j).c)) then 4
 else if 0 < j ∧ lessE (ge es (j - 1)) (ge es j) = false then 13
 else if fitsB ns es (ge es j) = false then 20 else 0
def superErr (ns : List Nd) (es : List Ed) (m : Int) : Int :=
 if 8192 < ns.length ∨ 32768 < es.length then 3 else if nodesErr ns m ≠ 0 then nodesErr ns m else fe (edgeErr ns es) 0 es.length
theorem super_edge {ns : List Nd} {es : List Ed} {m e : Int} {j : Nat} (h1 : ns.length ≤ 8192) (h2 : es.length ≤ 32768) (hn : nodesErr ns m = 0) (h : ∀ x,x < j → edgeErr ns es x = 0) (hj : j < es.length) (he : edgeErr ns es j = e) (h0 : e ≠ 0) : superErr ns es m = e:=by
 unfold superErr
 rw [if_neg (by omega),hn,if_neg (by simp)]
 exact fe_hit h hj he h0
theorem super_ok {ns : List Nd} {es : List Ed} {m : Int} (h1 : ns.length ≤ 8192) (h2 : es.length ≤ 32768) (hn : nodesErr ns m = 0) (h : ∀ x,x < es.length → edgeErr ns es x = 0) : superErr ns es m = 0:=by
 unfold superErr
 rw [if_neg (by omega),hn,if_neg (by simp)]
 exact fe_ok _ 0 (fun i _ hi => h i (by omega))
end Go.Df.Sp
namespace Go.Proofs.YtincpmdldpakkaaGreatDoor
open Go.RowKit Go.Df
attribute [local go_sem ↓] Go.wp_at_zero Go.wp_at_succ
set_option maxRecDepth 100000 in
set_option maxHeartbeats 4000000 in
theorem rsuper_any (A1 A2 : Option Addr) (n1 c1 n2 c2 : Nat) (mn : Int) (ns : List Sp.Nd) (es : List Sp.Ed) (w : World) (hn : Nds w A1 n1 ns) (he : Eds w A2 n2 es) :
   Calls Tryz.prog 28 #[.agg #[.slice A1 n1 c1,.slice A2 n2 c2,.int .i64 mn]] w fun e w' => e = .returned (.int .i64 (Sp.superErr ns es mn)) ∧ Below w.heap.size w w':=by
 have HN:=Lib.hid hn
 have HL:=Lib.hid hn.1
 have HE:=Lib.hid he
 have HLe:=Lib.hid he.1
 clear hn he
 by_cases t1 : 8192 < n1
 · have d1 : decide ((8192 : Int) < n1) = true:=by simp;omega
   go_enter Tryz.func28,Tryz.ntmps28
   go_wp2_with fail
   go_ret
   exact ⟨ret_int (by unfold Sp.superErr;rw [HL.out,if_pos (by omega)]),by go_grown⟩
 have d1 : decide ((8192 : Int) < n1) = false:=by simp;omega
 by_cases t2 : 32768 < n2
 · have d2 : decide ((32768 : Int) < n2) = true:=by simp;omega
   go_enter Tryz.func28,Tryz.ntmps28
   go_wp2_with fail
   go_ret
   exact ⟨ret_int (by unfold Sp.superErr;rw [HLe.out,if_pos (by omega)]),by go_grown⟩
 have d2 : decide ((32768 : Int) < n2) = false:=by simp;omega
 go_enter Tryz.func28,Tryz.ntmps28
 go_upto_region 1 with fail
 refine wp_named (fun W => ∃ b0,w.heap.size = b0 ∧ Blk W b0 [.slice A1 n1 c1,.slice A2 n2 c2,.int .i64 mn] ∧ Below w.heap.size w W) ⟨_,rfl,?_,?_⟩ ?_
 · exact kbn
 · go_grown
 rintro W ⟨b0,e0,B0,hB⟩
 rw [e0]
 have G0 : w.heap.size ≤ b0:=by omega
 clear e0
 have ⟨L0,C0,F0⟩:=B0
 have HW:=Lib.hid (HN.out.later hB)
 have HWe:=Lib.hid (HE.out.later hB)
 go_wp2_with fail
 refine (nodes_any _ _ _ _ _ _ _ ns _ HW.out (by omega)).mono ?_
 rintro e w1 ⟨rfl,hb1⟩
 have hk1 : Kept [] W w1:=(Kept.refl _ _).call hb1
 have B01:=hk1.blk (by simp) B0
 have ⟨L01,C01,F01⟩:=B01
 clear C0 F0
 by_cases hne : Sp.nodesErr ns mn = 0
 case neg =>
   have hne' : (Sp.nodesErr ns mn != 0) = true:=by simpa using hne
   go_wp2_with fail
   go_ret
   exact ⟨ret_int (by unfold Sp.superErr;rw [HL.out,HLe.out,if_neg (by omega),if_pos hne]),hk1.below hB hB.size (by simp)⟩
 rw [hne]
 have HNe:=Lib.hid hne
 clear hne
 go_wp2_with fail
 go_loopw [4] (fun i wr => ∃ j : Nat,j ≤ n2 ∧ i = .int .i64 j ∧ Kept [] W wr ∧ Hid (∀ x,x < j → Sp.edgeErr ns es x = 0)) (fun i _ => n2 - (intOf i).toNat)
 case atStart => exact ⟨0,Nat.zero_le _,rfl,hk1,Lib.hid (fun j hj => absurd hj (by omega))⟩
 case round =>
   obtain ⟨j,hj,rfl,hkr,hno⟩:=hrel
   have BR:=hkr.blk (by simp) B0
   have ⟨LR,CR,FR⟩:=BR
   clear C01 F01
   by_cases hlt : j < n2
   case neg =>
     go_wp2_with fail
     go_ret
     exact ⟨ret_int (Sp.super_ok (by rw [HL.out];omega) (by rw [HLe.out];omega) HNe.out (fun x hx => hno.out x (by rw [HLe.out] at hx;omega))).symm,hkr.below hB hB.size (by simp)⟩
   obtain ⟨b,o,rfl,hl,hc⟩:=(HWe.out.kept hkr).2 (by omega)
   obtain ⟨h1,h2,h3,h4⟩:=hc j hlt
   have HC:=Lib.hid hc
   have LB:=Lib.hid hl
   clear hc
   obtain ⟨ea,eb,ek,ec,en⟩ : ∃ ea eb ek ec,ge es j = ⟨ea,eb,ek,ec⟩:=⟨_,_,_,_,rfl⟩
   rw [en] at h1 h2 h3 h4
   have HEe:=Lib.hid en
   clear en
   go_upto_region 10 with fail
   refine wp_named (fun V => ∃ g,wr.heap.size = g ∧ Blk V g [.int .i64 ea,.int .i64 eb,.int .i64 ek,.int .i64 ec] ∧ Kept [] wr V) ⟨_,rfl,Blk.new _ _ _ _ rfl,(Kept.refl _ _).alloc _⟩ ?_
   rintro V ⟨g,eg,Bg,hkV⟩
   rw [eg]
   have hkw : Kept [] W V:=keptTrans hkr hkV
   have BV:=hkw.blk (by simp) B0
   have ⟨LV,CV,FV⟩:=BV
   have ⟨LG,CG,FG⟩:=Bg
   have hBV:=hkw.below hB hB.size (by simp)
   have HNV:=Lib.hid (HN.out.later hBV)
   have HEV:=Lib.hid (HE.out.later hBV)
   clear CR FR h1 h2 h3 h4 eg
   have hbad : Hid (∀ e,Sp.edgeErr ns es j = e → e ≠ 0 → Sp.superErr ns es mn = e):=fun e h1 h2 => Sp.super_edge (by rw [HL.out];omega) (by rw [HLe.out];omega) HNe.out hno.out (by rw [HLe.out];exact hlt) h1 h2
   have hstep : Hid (Sp.edgeErr ns es j = 0 → ∀ x,x < j + 1 → Sp.edgeErr ns es x = 0):=fun h0 x hx => by
     rcases Nat.lt_or_ge x j with h9 | h9
     · exact hno.out x h9
     · obtain rfl : x = j:=by omega
       exact h0
   have HEr : Hid (Sp.edgeErr ns es j = (if ea < 0 ∨ (n1 : Int) ≤ ea ∨ eb < 0 ∨ (n1 : Int) ≤ eb then 4
     else if ek < 1 ∨ 5 < ek then 12
     else if ((ek = 1 ∨ ek = 5) ∧ ec ≠ -1) ∨ (ek ≠ 1 ∧ ek ≠ 5 ∧ (ec < 0 ∨ (n1 : Int) ≤ ec)) then 4
     else if 0 < j ∧ Sp.lessE (ge es (j - 1)) ⟨ea,eb,ek,ec⟩ = false then 13
     else if Sp.fitsB ns es ⟨ea,eb,ek,ec⟩ = false then 20 else 0)):=by
     show Sp.edgeErr ns es j = _
     unfold Sp.edgeErr
     rw [HEe.out,HL.out]
   have hk15 : (ek == 1) = decide (ek = 1):=by rw [Bool.eq_iff_iff];simp
   clear hk15
   by_cases r1 : ea < 0
   · have hE : Hid (Sp.superErr ns es mn = 4):=Lib.hid (hbad.out 4 (by rw [HEr.out];rw [if_pos (by omega)]) (by omega))
     have z : decide (ea < 0) = true:=by simpa using r1
     go_wp2_with fail
     all_goals
       go_ret
       exact ⟨ret_int hE.out.symm,hBV⟩
   have z1 : decide (ea < 0) = false:=by simpa using r1
   by_cases r2 : (n1 : Int) ≤ ea
   · have hE : Hid (Sp.superErr ns es mn = 4):=Lib.hid (hbad.out 4 (by rw [HEr.out];rw [if_pos (by omega)]) (by omega))
     have z : decide ((n1 : Int) ≤ ea) = true:=by simpa using r2
     go_wp2_with fail
     all_goals
       go_ret
       exact ⟨ret_int hE.out.symm,hBV⟩
   have z2 : decide ((n1 : Int) ≤ ea) = false:=by simpa using r2
   by_cases r3 : eb < 0
   · have hE : Hid (Sp.superErr ns es mn = 4):=Lib.hid (hbad.out 4 (by rw [HEr.out];rw [if_pos (by omega)]) (by omega))
     have z : decide (eb < 0) = true:=by simpa using r3
     go_wp2_with fail
     all_goals
       go_ret
       exact ⟨ret_int hE.out.symm,hBV⟩
   have z3 : decide (eb < 0) = false:=by simpa using r3
   by_cases r4 : (n1 : Int) ≤ eb
   · have hE : Hid (Sp.superErr ns es mn = 4):=Lib.hid (hbad.out 4 (by rw [HEr.out];rw [if_pos (by omega)]) (by omega))
     have z : decide ((n1 : Int) ≤ eb) = true:=by simpa using r4
     go_wp2_with fail
     all_goals
       go_ret
       exact ⟨ret_int hE.out.symm,hBV⟩
   have z4 : decide ((n1 : Int) ≤ eb) = false:=by simpa using r4
   by_cases r5 : ek < 1
   · have hE : Hid (Sp.superErr ns es mn = 12):=Lib.hid (hbad.out 12 (by rw [HEr.out];rw [if_neg (by omega),if_pos (by omega)]) (by omega))
     have z : decide (ek < 1) = true:=by simpa using r5
     go_wp2_with fail
     all_goals
       go_ret
       exact ⟨ret_int hE.out.symm,hBV⟩
   have z5 : decide (ek < 1) = false:=by simpa using r5
   by_cases r6 : 5 < ek
   · have hE : Hid (Sp.superErr ns es mn = 12):=Lib.hid (hbad.out 12 (by rw [HEr.out];rw [if_neg (by omega),if_pos (by omega)]) (by omega))
     have z : decide (5 < ek) = true:=by simpa using r6
     go_wp2_with fail
     all_goals
       go_ret
       exact ⟨ret_int hE.out.symm,hBV⟩
   have z6 : decide (5 < ek) = false:=by simpa using r6
   have hcall : ((ek == 1) = true ∧ ek = 1 ∧ ek ≠ 2) ∨ ((ek == 1) = false ∧ (ek == 5) = true ∧ ek = 5) ∨ ((ek == 1) = false ∧ (ek == 5) = false ∧ ek ≠ 1 ∧ ek ≠ 5):=by
     by_cases e9 : ek = 1
     · exact .inl ⟨by simpa using e9,e9,by omega⟩
     · by_cases e8 : ek = 5
       · exact .inr (.inl ⟨by simpa using e9,by simpa using e8,e8⟩)
       · exact .inr (.inr ⟨by simpa using e9,by simpa using e8,e9,e8⟩)
   rcases hcall with ⟨c1,c2,-⟩ | ⟨c1,c3,c2⟩ | ⟨c1,c3,c2,c4⟩
   · have c0:=trivial
     have C2:=Lib.hid c2
     clear c2
     by_cases r7 : ec = -1
     rotate_left
     · have hE : Hid (Sp.superErr ns es mn = 4):=Lib.hid (hbad.out 4 (by rw [HEr.out];rw [if_neg (by omega),if_neg (by omega),if_pos (by have:=C2.out;omega)]) (by omega))
       have z : (ec != -1) = true:=by simpa using r7
       go_wp2_with fail
       all_goals
         go_ret
         exact ⟨ret_int hE.out.symm,hBV⟩
     have z7 : (ec != -1) = false:=by simpa using r7
     have R7:=Lib.hid r7
     clear r7
     obtain ⟨na,rfl⟩:=Int.eq_ofNat_of_zero_le (show 0 ≤ ea by omega)
     obtain ⟨nb,rfl⟩:=Int.eq_ofNat_of_zero_le (show 0 ≤ eb by omega)
     by_cases hj0 : j = 0
     · have y1 : decide (0 < j) = false:=by simp;omega
       have y2 : decide ((0 : Int) < (j : Int)) = false:=by simp;omega
       have HEz : Hid (Sp.edgeErr ns es j = (if Sp.fitsB ns es ⟨na,nb,ek,ec⟩ = false then 20 else 0)):=by
         show Sp.edgeErr ns es j = _
         rw [HEr.out,if_neg (by omega),if_neg (by omega),if_neg (by have:=C2.out;have:=R7.out;omega),if_neg (by omega)]
       clear hj0
       go_upto_region 17 with fail
       go_quiet (fail)
       go_wp2_with fail
       refine (fits_any _ _ _ _ _ _ _ na nb ek ec ns es _ (Lib.hid (HW.out.kept (hkw.drewN _))).out (Lib.hid (HWe.out.kept (hkw.drewN _))).out (by omega) (by omega) (by omega) (by omega) (by intros;have:=C2.out;have:=R7.out;omega)).mono ?_
       rintro e w5 ⟨rfl,hb5⟩
       have hk5 : Kept [] W w5:=(hkw.drewN _).call hb5
       have hB5:=hk5.below hB hB.size (by simp)
       by_cases hfi : Sp.fitsB ns es ⟨na,nb,ek,ec⟩ = true
       · rw [hfi]
         have hfin:=Lib.hid (hstep.out (by rw [HEz.out,hfi];rfl))
         clear hfi
         go_wp2_with fail
         exact ⟨⟨j + 1,by omega,by go_num,hk5,hfin⟩,by simp [intOf];omega⟩
       · rw [Bool.not_eq_true] at hfi
         rw [hfi]
         have hE : Hid (Sp.superErr ns es mn = 20):=Lib.hid (hbad.out 20 (by rw [HEz.out,hfi];rfl) (by omega))
         clear hfi
         go_wp2_with fail
         go_ret
         exact ⟨ret_int hE.out.symm,hB5⟩
     · have y1 : decide (0 < j) = true:=by simp;omega
       have y2 : decide ((0 : Int) < (j : Int)) = true:=by simp;omega
       have y3 : IntKind.i64.wrap ((j : Int) - 1) = (j : Int) - 1:=IntWalk.i64_in _ (by omega)
       have y4 : (0 : Int) ≤ (j : Int) - 1:=by omega
       have y5 : ((j : Int) - 1).toNat = j - 1:=by omega
       have y6 : (j : Int) - 1 < (n2 : Int):=by omega
       have y7 : 0 < j:=by omega
       have y8 : 1 ≤ j:=by omega
       have y9 : (1 : Int) ≤ (j : Int):=by omega
       have y10 : j ≤ n2:=by omega
       have y11 : j < n2 + 1:=by omega
       have y12 : (j : Int) < (n2 : Int) + 1:=by omega
       have y13 : (j : Int) ≤ (n2 : Int):=by omega
       obtain ⟨p1,p2,p3,p4⟩:=HC.out (j - 1) (by omega)
       obtain ⟨pa,pb,pk,pc,ep⟩ : ∃ pa pb pk pc,ge es (j - 1) = ⟨pa,pb,pk,pc⟩:=⟨_,_,_,_,rfl⟩
       rw [ep] at p1 p2 p3 p4
       have q1 : V.cell? ⟨b,o + (j - 1) * 4,none⟩ = some (.int .i64 pa):=(hkV.cell b _ LB.out (by simp)).trans p1
       have q2 : V.cell? ⟨b,o + (j - 1) * 4 + 1,none⟩ = some (.int .i64 pb):=(hkV.cell b _ LB.out (by simp)).trans p2
       have q3 : V.cell? ⟨b,o + (j - 1) * 4 + 2,none⟩ = some (.int .i64 pk):=(hkV.cell b _ LB.out (by simp)).trans p3
       have q4 : V.cell? ⟨b,o + (j - 1) * 4 + 3,none⟩ = some (.int .i64 pc):=(hkV.cell b _ LB.out (by simp)).trans p4
       have hbV : b < V.heap.size:=Nat.lt_of_lt_of_le LB.out hkV.size
       have HPe:=Lib.hid ep
       clear p1 p2 p3 p4 ep hj0
       have HEz : Hid (Sp.edgeErr ns es j = (if Sp.lessE ⟨pa,pb,pk,pc⟩ ⟨na,nb,ek,ec⟩ = false then 13 else if Sp.fitsB ns es ⟨na,nb,ek,ec⟩ = false then 20 else 0)):=by
         show Sp.edgeErr ns es j = _
         rw [HEr.out,HPe.out,if_neg (by omega),if_neg (by omega),if_neg (by have:=C2.out;have:=R7.out;omega)]
         simp [y7]
       go_upto_region 17 with fail
       go_cut [100] (fun s wx => s = .bool (!Sp.lessE ⟨pa,pb,pk,pc⟩ ⟨na,nb,ek,ec⟩) ∧ Kept [] V wx)
       case first =>
         go_region_held3 (fun w' => SX0 V w') (exact kp0)
           (first | (go_at_call 69;((with_reducible refine (lessEdge_any pa pb pk pc na nb ek ec _).mono ?_));rintro e w3 ⟨rfl,hb3⟩;obtain ⟨hc3,hf3,hg3⟩:=bcell hb3;have hz3:=hb3.size;try simp at hz3))
         all_goals
           go_wp2_with fail
           go_meet
           refine ⟨rfl,?_⟩
           (exact kpt0)
       case rest =>
         obtain ⟨rfl,hkc⟩:=hcut
         have hkwc : Kept [] W wc:=keptTrans hkw hkc
         have hBc:=hkwc.below hB hB.size (by simp)
         have BC:=hkc.blk (by simp) Bg
         have ⟨LC,CC,FC⟩:=BC
         have BD:=hkc.blk (by simp) BV
         have ⟨LD,CD,FD⟩:=BD
         have HNC:=Lib.hid (HN.out.later hBc)
         have HEC:=Lib.hid (HE.out.later hBc)
         clear CG FG CV FV q1 q2 q3 q4
         by_cases hles : Sp.lessE ⟨pa,pb,pk,pc⟩ ⟨na,nb,ek,ec⟩ = true
         · rw [hles]
           have HEz : Hid (Sp.edgeErr ns es j = (if Sp.fitsB ns es ⟨na,nb,ek,ec⟩ = false then 20 else 0)):=by
             show Sp.edgeErr ns es j = _
             rw [HEz.out,hles,if_neg (by simp)]
           clear hles
           go_wp2_with fail
           refine (fits_any _ _ _ _ _ _ _ na nb ek ec ns es _ HNC.out HEC.out (by omega) (by omega) (by omega) (by omega) (by intros;have:=C2.out;have:=R7.out;omega)).mono ?_
           rintro e w5 ⟨rfl,hb5⟩
           have hk5 : Kept [] W w5:=hkwc.call hb5
           have hB5:=hk5.below hB hB.size (by simp)
           by_cases hfi : Sp.fitsB ns es ⟨na,nb,ek,ec⟩ = true
           · rw [hfi]
             have hfin:=Lib.hid (hstep.out (by rw [HEz.out,hfi];rfl))
             clear hfi
             go_wp2_with fail
             exact ⟨⟨j + 1,by omega,by go_num,hk5,hfin⟩,by simp [intOf];omega⟩
           · rw [Bool.not_eq_true] at hfi
             rw [hfi]
             have hE : Hid (Sp.superErr ns es mn = 20):=Lib.hid (hbad.out 20 (by rw [HEz.out,hfi];rfl) (by omega))
             clear hfi
             go_wp2_with fail
             go_ret
             exact ⟨ret_int hE.out.symm,hB5⟩
         · rw [Bool.not_eq_true] at hles
           rw [hles]
           have hE : Hid (Sp.superErr ns es mn = 13):=Lib.hid (hbad.out 13 (by rw [HEz.out,hles];rfl) (by omega))
           clear hles
           go_wp2_with fail
           go_ret
           exact ⟨ret_int hE.out.symm,hBc⟩
   · have c0:=trivial
     have C2:=Lib.hid c2
     clear c2
     by_cases r7 : ec = -1
     rotate_left
     · have hE : Hid (Sp.superErr ns es mn = 4):=Lib.hid (hbad.out 4 (by rw [HEr.out];rw [if_neg (by omega),if_neg (by omega),if_pos (by have:=C2.out;omega)]) (by omega))
       have z : (ec != -1) = true:=by simpa using r7
       go_wp2_with fail
       all_goals
         go_ret
         exact ⟨ret_int hE.out.symm,hBV⟩
     have z7 : (ec != -1) = false:=by simpa using r7
     have R7:=Lib.hid r7
     clear r7
     obtain ⟨na,rfl⟩:=Int.eq_ofNat_of_zero_le (show 0 ≤ ea by omega)
     obtain ⟨nb,rfl⟩:=Int.eq_ofNat_of_zero_le (show 0 ≤ eb by omega)
     by_cases hj0 : j = 0
     · have y1 : decide (0 < j) = false:=by simp;omega
       have y2 : decide ((0 : Int) < (j : Int)) = false:=by simp;omega
       have HEz : Hid (Sp.edgeErr ns es j = (if Sp.fitsB ns es ⟨na,nb,ek,ec⟩ = false then 20 else 0)):=by
         show Sp.edgeErr ns es j = _
         rw [HEr.out,if_neg (by omega),if_neg (by omega),if_neg (by have:=C2.out;have:=R7.out;omega),if_neg (by omega)]
       clear hj0
       go_upto_region 17 with fail
       go_quiet (fail)
       go_wp2_with fail
       refine (fits_any _ _ _ _ _ _ _ na nb ek ec ns es _ (Lib.hid (HW.out.kept (hkw.drewN _))).out (Lib.hid (HWe.out.kept (hkw.drewN _))).out (by omega) (by omega) (by omega) (by omega) (by intros;have:=C2.out;have:=R7.out;omega)).mono ?_
       rintro e w5 ⟨rfl,hb5⟩
       have hk5 : Kept [] W w5:=(hkw.drewN _).call hb5
       have hB5:=hk5.below hB hB.size (by simp)
       by_cases hfi : Sp.fitsB ns es ⟨na,nb,ek,ec⟩ = true
       · rw [hfi]
         have hfin:=Lib.hid (hstep.out (by rw [HEz.out,hfi];rfl))
         clear hfi
         go_wp2_with fail
         exact ⟨⟨j + 1,by omega,by go_num,hk5,hfin⟩,by simp [intOf];omega⟩
       · rw [Bool.not_eq_true] at hfi
         rw [hfi]
         have hE : Hid (Sp.superErr ns es mn = 20):=Lib.hid (hbad.out 20 (by rw [HEz.out,hfi];rfl) (by omega))
         clear hfi
         go_wp2_with fail
         go_ret
         exact ⟨ret_int hE.out.symm,hB5⟩
     · have y1 : decide (0 < j) = true:=by simp;omega
       have y2 : decide ((0 : Int) < (j : Int)) = true:=by simp;omega
       have y3 : IntKind.i64.wrap ((j : Int) - 1) = (j : Int) - 1:=IntWalk.i64_in _ (by omega)
       have y4 : (0 : Int) ≤ (j : Int) - 1:=by omega
       have y5 : ((j : Int) - 1).toNat = j - 1:=by omega
       have y6 : (j : Int) - 1 < (n2 : Int):=by omega
       have y7 : 0 < j:=by omega
       have y8 : 1 ≤ j:=by omega
       have y9 : (1 : Int) ≤ (j : Int):=by omega
       have y10 : j ≤ n2:=by omega
       have y11 : j < n2 + 1:=by omega
       have y12 : (j : Int) < (n2 : Int) + 1:=by omega
       have y13 : (j : Int) ≤ (n2 : Int):=by omega
       obtain ⟨p1,p2,p3,p4⟩:=HC.out (j - 1) (by omega)
       obtain ⟨pa,pb,pk,pc,ep⟩ : ∃ pa pb pk pc,ge es (j - 1) = ⟨pa,pb,pk,pc⟩:=⟨_,_,_,_,rfl⟩
       rw [ep] at p1 p2 p3 p4
       have q1 : V.cell? ⟨b,o + (j - 1) * 4,none⟩ = some (.int .i64 pa):=(hkV.cell b _ LB.out (by simp)).trans p1
       have q2 : V.cell? ⟨b,o + (j - 1) * 4 + 1,none⟩ = some (.int .i64 pb):=(hkV.cell b _ LB.out (by simp)).trans p2
       have q3 : V.cell? ⟨b,o + (j - 1) * 4 + 2,none⟩ = some (.int .i64 pk):=(hkV.cell b _ LB.out (by simp)).trans p3
       have q4 : V.cell? ⟨b,o + (j - 1) * 4 + 3,none⟩ = some (.int .i64 pc):=(hkV.cell b _ LB.out (by simp)).trans p4
       have hbV : b < V.heap.size:=Nat.lt_of_lt_of_le LB.out hkV.size
       have HPe:=Lib.hid ep
       clear p1 p2 p3 p4 ep hj0
       have HEz : Hid (Sp.edgeErr ns es j = (if Sp.lessE ⟨pa,pb,pk,pc⟩ ⟨na,nb,ek,ec⟩ = false then 13 else if Sp.fitsB ns es ⟨na,nb,ek,ec⟩ = false then 20 else 0)):=by
         show Sp.edgeErr ns es j = _
         rw [HEr.out,HPe.out,if_neg (by omega),if_neg (by omega),if_neg (by have:=C2.out;have:=R7.out;omega)]
         simp [y7]
       go_upto_region 17 with fail
       go_cut [100] (fun s wx => s = .bool (!Sp.lessE ⟨pa,pb,pk,pc⟩ ⟨na,nb,ek,ec⟩) ∧ Kept [] V wx)
       case first =>
         go_region_held3 (fun w' => SX0 V w') (exact kp0)
           (first | (go_at_call 69;((with_reducible refine (lessEdge_any pa pb pk pc na nb ek ec _).mono ?_));rintro e w3 ⟨rfl,hb3⟩;obtain ⟨hc3,hf3,hg3⟩:=bcell hb3;have hz3:=hb3.size;try simp at hz3))
         all_goals
           go_wp2_with fail
           go_meet
           refine ⟨rfl,?_⟩
           (exact kpt0)
       case rest =>
         obtain ⟨rfl,hkc⟩:=hcut
         have hkwc : Kept [] W wc:=keptTrans hkw hkc
         have hBc:=hkwc.below hB hB.size (by simp)
         have BC:=hkc.blk (by simp) Bg
         have ⟨LC,CC,FC⟩:=BC
         have BD:=hkc.blk (by simp) BV
         have ⟨LD,CD,FD⟩:=BD
         have HNC:=Lib.hid (HN.out.later hBc)
         have HEC:=Lib.hid (HE.out.later hBc)
         clear CG FG CV FV q1 q2 q3 q4
         by_cases hles : Sp.lessE ⟨pa,pb,pk,pc⟩ ⟨na,nb,ek,ec⟩ = true
         · rw [hles]
           have HEz : Hid (Sp.edgeErr ns es j = (if Sp.fitsB ns es ⟨na,nb,ek,ec⟩ = false then 20 else 0)):=by
             show Sp.edgeErr ns es j = _
             rw [HEz.out,hles,if_neg (by simp)]
           clear hles
           go_wp2_with fail
           refine (fits_any _ _ _ _ _ _ _ na nb ek ec ns es _ HNC.out HEC.out (by omega) (by omega) (by omega) (by omega) (by intros;have:=C2.out;have:=R7.out;omega)).mono ?_
           rintro e w5 ⟨rfl,hb5⟩
           have hk5 : Kept [] W w5:=hkwc.call hb5
           have hB5:=hk5.below hB hB.size (by simp)
           by_cases hfi : Sp.fitsB ns es ⟨na,nb,ek,ec⟩ = true
           · rw [hfi]
             have hfin:=Lib.hid (hstep.out (by rw [HEz.out,hfi];rfl))
             clear hfi
             go_wp2_with fail
             exact ⟨⟨j + 1,by omega,by go_num,hk5,hfin⟩,by simp [intOf];omega⟩
           · rw [Bool.not_eq_true] at hfi
             rw [hfi]
             have hE : Hid (Sp.superErr ns es mn = 20):=Lib.hid (hbad.out 20 (by rw [HEz.out,hfi];rfl) (by omega))
             clear hfi
             go_wp2_with fail
             go_ret
             exact ⟨ret_int hE.out.symm,hB5⟩
         · rw [Bool.not_eq_true] at hles
           rw [hles]
           have hE : Hid (Sp.superErr ns es mn = 13):=Lib.hid (hbad.out 13 (by rw [HEz.out,hles];rfl) (by omega))
           clear hles
           go_wp2_with fail
           go_ret
           exact ⟨ret_int hE.out.symm,hBc⟩
   · have c0:=trivial
     by_cases r7 : ec < 0
     · have hE : Hid (Sp.superErr ns es mn = 4):=Lib.hid (hbad.out 4 (by rw [HEr.out];rw [if_neg (by omega),if_neg (by omega),if_pos (by omega)]) (by omega))
       have z : decide (ec < 0) = true:=by simpa using r7
       go_wp2_with fail
       all_goals
         go_ret
         exact ⟨ret_int hE.out.symm,hBV⟩
     have z7 : decide (ec < 0) = false:=by simpa using r7
     by_cases r8 : (n1 : Int) ≤ ec
     · have hE : Hid (Sp.superErr ns es mn = 4):=Lib.hid (hbad.out 4 (by rw [HEr.out];rw [if_neg (by omega),if_neg (by omega),if_pos (by omega)]) (by omega))
       have z : decide ((n1 : Int) ≤ ec) = true:=by simpa using r8
       go_wp2_with fail
       all_goals
         go_ret
         exact ⟨ret_int hE.out.symm,hBV⟩
     have z8 : decide ((n1 : Int) ≤ ec) = false:=by simpa using r8
     obtain ⟨na,rfl⟩:=Int.eq_ofNat_of_zero_le (show 0 ≤ ea by omega)
     obtain ⟨nb,rfl⟩:=Int.eq_ofNat_of_zero_le (show 0 ≤ eb by omega)
     by_cases hj0 : j = 0
     · have y1 : decide (0 < j) = false:=by simp;omega
       have y2 : decide ((0 : Int) < (j : Int)) = false:=by simp;omega
       have HEz : Hid (Sp.edgeErr ns es j = (if Sp.fitsB ns es ⟨na,nb,ek,ec⟩ = false then 20 else 0)):=by
         show Sp.edgeErr ns es j = _
         rw [HEr.out,if_neg (by omega),if_neg (by omega),if_neg (by omega),if_neg (by omega)]
       clear hj0
       go_upto_region 17 with fail
       go_quiet (fail)
       go_wp2_with fail
       refine (fits_any _ _ _ _ _ _ _ na nb ek ec ns es _ (Lib.hid (HW.out.kept (hkw.drewN _))).out (Lib.hid (HWe.out.kept (hkw.drewN _))).out (by omega) (by omega) (by omega) (by omega) (by intros;omega)).mono ?_
       rintro e w5 ⟨rfl,hb5⟩
       have hk5 : Kept [] W w5:=(hkw.drewN _).call hb5
       have hB5:=hk5.below hB hB.size (by simp)
       by_cases hfi : Sp.fitsB ns es ⟨na,nb,ek,ec⟩ = true
       · rw [hfi]
         have hfin:=Lib.hid (hstep.out (by rw [HEz.out,hfi];rfl))
         clear hfi
         go_wp2_with fail
         exact ⟨⟨j + 1,by omega,by go_num,hk5,hfin⟩,by simp [intOf];omega⟩
       · rw [Bool.not_eq_true] at hfi
         rw [hfi]
         have hE : Hid (Sp.superErr ns es mn = 20):=Lib.hid (hbad.out 20 (by rw [HEz.out,hfi];rfl) (by omega))
         clear hfi
         go_wp2_with fail
         go_ret
         exact ⟨ret_int hE.out.symm,hB5⟩
     · have y1 : decide (0 < j) = true:=by simp;omega
       have y2 : decide ((0 : Int) < (j : Int)) = true:=by simp;omega
       have y3 : IntKind.i64.wrap ((j : Int) - 1) = (j : Int) - 1:=IntWalk.i64_in _ (by omega)
       have y4 : (0 : Int) ≤ (j : Int) - 1:=by omega
       have y5 : ((j : Int) - 1).toNat = j - 1:=by omega
       have y6 : (j : Int) - 1 < (n2 : Int):=by omega
       have y7 : 0 < j:=by omega
       have y8 : 1 ≤ j:=by omega
       have y9 : (1 : Int) ≤ (j : Int):=by omega
       have y10 : j ≤ n2:=by omega
       have y11 : j < n2 + 1:=by omega
       have y12 : (j : Int) < (n2 : Int) + 1:=by omega
       have y13 : (j : Int) ≤ (n2 : Int):=by omega
       obtain ⟨p1,p2,p3,p4⟩:=HC.out (j - 1) (by omega)
       obtain ⟨pa,pb,pk,pc,ep⟩ : ∃ pa pb pk pc,ge es (j - 1) = ⟨pa,pb,pk,pc⟩:=⟨_,_,_,_,rfl⟩
       rw [ep] at p1 p2 p3 p4
       have q1 : V.cell? ⟨b,o + (j - 1) * 4,none⟩ = some (.int .i64 pa):=(hkV.cell b _ LB.out (by simp)).trans p1
       have q2 : V.cell? ⟨b,o + (j - 1) * 4 + 1,none⟩ = some (.int .i64 pb):=(hkV.cell b _ LB.out (by simp)).trans p2
       have q3 : V.cell? ⟨b,o + (j - 1) * 4 + 2,none⟩ = some (.int .i64 pk):=(hkV.cell b _ LB.out (by simp)).trans p3
       have q4 : V.cell? ⟨b,o + (j - 1) * 4 + 3,none⟩ = some (.int .i64 pc):=(hkV.cell b _ LB.out (by simp)).trans p4
       have hbV : b < V.heap.size:=Nat.lt_of_lt_of_le LB.out hkV.size
       have HPe:=Lib.hid ep
       clear p1 p2 p3 p4 ep hj0
       have HEz : Hid (Sp.edgeErr ns es j = (if Sp.lessE ⟨pa,pb,pk,pc⟩ ⟨na,nb,ek,ec⟩ = false then 13 else if Sp.fitsB ns es ⟨na,nb,ek,ec⟩ = false then 20 else 0)):=by
         show Sp.edgeErr ns es j = _
         rw [HEr.out,HPe.out,if_neg (by omega),if_neg (by omega),if_neg (by omega)]
         simp [y7]
       go_upto_region 17 with fail
       go_cut [100] (fun s wx => s = .bool (!Sp.lessE ⟨pa,pb,pk,pc⟩ ⟨na,nb,ek,ec⟩) ∧ Kept [] V wx)
       case first =>
         go_region_held3 (fun w' => SX0 V w') (exact kp0)
           (first | (go_at_call 69;((with_reducible refine (lessEdge_any pa pb pk pc na nb ek ec _).mono ?_));rintro e w3 ⟨rfl,hb3⟩;obtain ⟨hc3,hf3,hg3⟩:=bcell hb3;have hz3:=hb3.size;try simp at hz3))
         all_goals
           go_wp2_with fail
           go_meet
           refine ⟨rfl,?_⟩
           (exact kpt0)
       case rest =>
         obtain ⟨rfl,hkc⟩:=hcut
         have hkwc : Kept [] W wc:=keptTrans hkw hkc
         have hBc:=hkwc.below hB hB.size (by simp)
         have BC:=hkc.blk (by simp) Bg
         have ⟨LC,CC,FC⟩:=BC
         have BD:=hkc.blk (by simp) BV
         have ⟨LD,CD,FD⟩:=BD
         have HNC:=Lib.hid (HN.out.later hBc)
         have HEC:=Lib.hid (HE.out.later hBc)
         clear CG FG CV FV q1 q2 q3 q4
         by_cases hles : Sp.lessE ⟨pa,pb,pk,pc⟩ ⟨na,nb,ek,ec⟩ = true
         · rw [hles]
           have HEz : Hid (Sp.edgeErr ns es j = (if Sp.fitsB ns es ⟨na,nb,ek,ec⟩ = false then 20 else 0)):=by
             show Sp.edgeErr ns es j = _
             rw [HEz.out,hles,if_neg (by simp)]
           clear hles
           go_wp2_with fail
           refine (fits_any _ _ _ _ _ _ _ na nb ek ec ns es _ HNC.out HEC.out (by omega) (by omega) (by omega) (by omega) (by intros;omega)).mono ?_
           rintro e w5 ⟨rfl,hb5⟩
           have hk5 : Kept [] W w5:=hkwc.call hb5
           have hB5:=hk5.below hB hB.size (by simp)
           by_cases hfi : Sp.fitsB ns es ⟨na,nb,ek,ec⟩ = true
           · rw [hfi]
             have hfin:=Lib.hid (hstep.out (by rw [HEz.out,hfi];rfl))
             clear hfi
             go_wp2_with fail
             exact ⟨⟨j + 1,by omega,by go_num,hk5,hfin⟩,by simp [intOf];omega⟩
           · rw [Bool.not_eq_true] at hfi
             rw [hfi]
             have hE : Hid (Sp.superErr ns es mn = 20):=Lib.hid (hbad.out 20 (by rw [HEz.out,hfi];rfl) (by omega))
             clear hfi
             go_wp2_with fail
             go_ret
             exact ⟨ret_int hE.out.symm,hB5⟩
         · rw [Bool.not_eq_true] at hles
           rw [hles]
           have hE : Hid (Sp.superErr ns es mn = 13):=Lib.hid (hbad.out 13 (by rw [HEz.out,hles];rfl) (by omega))
           clear hles
           go_wp2_with fail
           go_ret
           exact ⟨ret_int hE.out.symm,hBc⟩
end Go.Proofs.YtincpmdldpakkaaGreatDoor
namespace Go.Df
theorem Kept.next {X Y : List Nat} {W w w' : World} (h : Kept X W w) (h' : Kept Y w w') (hx : ∀ y ∈ Y,y ∈ X ∨ W.heap.size ≤ y) : Kept X W w' :=
 ⟨h'.os.trans h.os,h'.tape.trans h.tape,h'.output.trans h.output,Nat.le_trans h.size h'.size,fun k hk hn => (h'.block k (Nat.lt_of_lt_of_le hk h.size) (fun hm => by rcases hx k hm with h1 | h1;exact hn h1;omega)).trans (h.block k hk hn)⟩
def mv (g : Int → Int) (v : Value) : Lit:=match v with | .int .i64 a => .int .i64 (g a) | _ => .int .i64 0
theorem mv_put {g g' : Int → Int} {a : Int} (h : ∀ x,x ≠ a → g' x = g x) : ∀ v,v ≠ .int .i64 a → mv g' v = mv g v:=by
 intro v hv
 unfold mv
 split
 · rename_i x
   rw [h x (fun hh => hv (by rw [hh]))]
 · rfl
def mbl (g : Int → Int → Bool) : List Value → Lit
 | [.int .i64 a,.int .i64 b] => .bool (g a b)
 | _ => .bool false
def mb (g : Int → Int → Bool) (v : Value) : Lit:=match v with | .agg xs => mbl g xs.toList | _ => .bool false
theorem mbl_put {g g' : Int → Int → Bool} {a b : Int} (h : ∀ x y,¬ (x = a ∧ y = b) → g' x y = g x y) : ∀ l,l ≠ [.int .i64 a,.int .i64 b] → mbl g' l = mbl g l:=by
 intro l hl
 unfold mbl
 split
 · rename_i x y
   exact congrArg _ (h x y (fun hh => hl (by rw [hh.1,hh.2])))
 · rfl
theorem mb_put {g g' : Int → Int → Bool} {a b : Int} (h : ∀ x y,¬ (x = a ∧ y = b) → g' x y = g x y) : ∀ v,v ≠ .agg #[.int .i64 a,.int .i64 b] → mb g' v = mb g v:=by
 intro v hv
 unfold mb
 split
 · rename_i xs
   exact mbl_put h _ (fun hh => hv (by rw [show xs = #[.int .i64 a,.int .i64 b] from Array.ext' hh]))
 · rfl
namespace Sp
def cnt (ns : List Nd) : Nat → Int → Int
 | 0,_ => 0
 | j + 1,f => if (gn ns j).f = f ∧ ((gn ns j).k = 1 ∨ (gn ns j).k = 3 ∨ (gn ns j).k = 4) then cnt ns j f + 1 else cnt ns j f
def lst (ns : List Nd) : Nat → Int → Int
 | 0,_ => 0
 | j + 1,f => if (gn ns j).f = f ∧ (gn ns j).k = 1 then (j : Int) else lst ns j f
def ent (es : List Ed) : Nat → Int → Int → Bool
 | 0,_,_ => false
 | j + 1,x,y => if (ge es j).k = 2 ∧ (ge es j).a = x ∧ (ge es j).b = y then true else ent es j x y
theorem cnt_le (ns : List Nd) (f : Int) : ∀ j : Nat,0 ≤ cnt ns j f ∧ cnt ns j f ≤ j:=by
 intro j
 induction j with
 | zero => simp [cnt]
 | succ j ih => unfold cnt;split <;> omega
theorem lst_le (ns : List Nd) (f : Int) : ∀ j : Nat,0 ≤ lst ns j f ∧ lst ns j f ≤ j:=by
 intro j
 induction j with
 | zero => simp [lst]
 | succ j ih => unfold lst;split <;> omega
theorem ent_iff (es : List Ed) (x y : Int) : ∀ n : Nat,ent es n x y = true ↔ ∃ j,j < n ∧ (ge es j).k = 2 ∧ (ge es j).a = x ∧ (ge es j).b = y:=by
 intro n
 induction n with
 | zero => simp [ent]
 | succ n ih =>
   unfold ent
   split
   · rename_i h
     simp only [true_iff]
     exact ⟨n,by omega,h⟩
   · rename_i h
     rw [ih]
     constructor
     · rintro ⟨j,hj,h1⟩;exact ⟨j,by omega,h1⟩
     · rintro ⟨j,hj,h1⟩
       rcases Nat.lt_or_ge j n with h2 | h2
       · exact ⟨j,h2,h1⟩
       · obtain rfl : j = n:=by omega
         exact absurd h1 h
def ck (ns : List Nd) (k : Int) : Nat → Int → Int
 | 0,_ => 0
 | j + 1,f => if (gn ns j).f = f ∧ (gn ns j).k = k then ck ns k j f + 1 else ck ns k j f
theorem cnt_ck (ns : List Nd) (f : Int) : ∀ j,cnt ns j f = ck ns 1 j f + ck ns 3 j f + ck ns 4 j f:=by
 intro j
 induction j with
 | zero => rfl
 | succ j ih =>
   unfold cnt ck
   by_cases hf : (gn ns j).f = f
   · by_cases h1 : (gn ns j).k = 1
     · simp [hf,h1,ih];omega
     · by_cases h3 : (gn ns j).k = 3
       · simp [hf,h3,ih];omega
       · by_cases h4 : (gn ns j).k = 4
         · simp [hf,h4,ih];omega
         · simp [h1,h3,h4,ih]
   · simp [hf,ih]
theorem ck_zero {ns : List Nd} {k f : Int} : ∀ {n : Nat},(∀ i,i < n → ¬ ((gn ns i).f = f ∧ (gn ns i).k = k)) → ck ns k n f = 0:=by
 intro n
 induction n with
 | zero => intro _;rfl
 | succ n ih => intro h;unfold ck;rw [if_neg (h n (by omega))];exact ih (fun i hi => h i (by omega))
theorem ck_nn {ns : List Nd} {k f : Int} : ∀ n : Nat,0 ≤ ck ns k n f:=by
 intro n
 induction n with
 | zero => simp [ck]
 | succ n ih => unfold ck;split <;> omega
theorem ck_pos {ns : List Nd} {k f : Int} {i : Nat} : ∀ {n : Nat},i < n → (gn ns i).f = f → (gn ns i).k = k → 1 ≤ ck ns k n f:=by
 intro n
 induction n with
 | zero => intro h;omega
 | succ n ih =>
   intro h h1 h2
   unfold ck
   have:=@ck_nn ns k f n
   split
   · omega
   · rename_i h3
     rcases Nat.lt_or_ge i n with h4 | h4
     · exact ih h4 h1 h2
     · obtain rfl : i = n:=by omega
       exact absurd ⟨h1,h2⟩ h3
theorem ck_one {ns : List Nd} {k f : Int} : ∀ {n : Nat},(∀ i j,i < j → j < n → (gn ns i).f = f → (gn ns i).k = k → (gn ns j).f = f → (gn ns j).k = k → False) → ck ns k n f ≤ 1:=by
 intro n
 induction n with
 | zero => intro _;simp [ck]
 | succ n ih =>
   intro h
   unfold ck
   split
   · rename_i h1
     rw [ck_zero (fun i hi hh => h i n hi (by omega) hh.1 hh.2 h1.1 h1.2)]
     omega
   · exact ih (fun i j hi hj => h i j hi (by omega))
theorem lessN_trans {a b c : Nd} (h1 : lessN a b = true) (h2 : lessN b c = true) : lessN a c = true:=by
 unfold lessN at *
 grind
theorem node_less {ns : List Nd} {j : Nat} (h : nodeErr ns j = 0) (hj : 0 < j) : lessN (gn ns (j - 1)) (gn ns j) = true:=by
 unfold nodeErr at h
 split at h
 · cases h
 · split at h
   · cases h
   · split at h
     · cases h
     · rename_i h3
       simp only [hj,true_and,Bool.not_eq_false] at h3
       exact h3
theorem node_asc {ns : List Nd} {n : Nat} (h : ∀ x,x < n → nodeErr ns x = 0) : ∀ j i,i < j → j < n → lessN (gn ns i) (gn ns j) = true:=by
 intro j
 induction j with
 | zero => intro i hi;omega
 | succ j ih =>
   intro i hi hj
   have h1:=node_less (h (j + 1) hj) (by omega)
   rw [Nat.add_sub_cancel] at h1
   rcases Nat.lt_or_ge i j with h2 | h2
   · exact lessN_trans (ih i h2 (by omega)) h1
   · obtain rfl : i = j:=by omega
     exact h1
theorem node_i {ns : List Nd} {j : Nat} (h : nodeErr ns j = 0) (hk : (gn ns j).k ≠ 2) : (gn ns j).i = -1:=by
 unfold nodeErr at h
 split at h
 · cases h
 · split at h
   · cases h
   · rename_i h3
     rcases Int.lt_or_le (gn ns j).f 0 with h4 | h4
     · exact absurd (Or.inl h4) h3
     · exact Classical.byContradiction (fun h5 => h3 (Or.inr (Or.inr ⟨hk,h5⟩)))
theorem node_once {ns : List Nd} {n : Nat} (h : ∀ x,x < n → nodeErr ns x = 0) {i j : Nat} (hij : i < j) (hj : j < n) {f k : Int} (hk : k ≠ 2) (h1 : (gn ns i).f = f) (h2 : (gn ns i).k = k) (h3 : (gn ns j).f = f) (h4 : (gn ns j).k = k) : False:=by
 have h5:=node_asc h j i hij hj
 have h6:=node_i (h i (by omega)) (by rw [h2];exact hk)
 have h7:=node_i (h j hj) (by rw [h4];exact hk)
 unfold lessN at h5
 simp [h1,h2,h3,h4,h6,h7] at h5
theorem kind_neg {ns : List Nd} {f k : Int} : kindAt ns f k < 0 ↔ ∀ j,j < ns.length → ¬ ((gn ns j).f = f ∧ (gn ns j).k = k):=by
 constructor
 · intro h j hj hh
   unfold kindAt at h
   split at h
   · omega
   · rename_i h1
     rw [List.findIdx?_eq_none_iff] at h1
     have:=h1 _ (List.getElem_mem hj)
     rw [← gn_lt hj] at this
     simp [hh.1,hh.2] at this
 · intro h
   rw [kind_miss (fun j hj => by have:=h j hj;simp only [Bool.and_eq_false_iff,beq_eq_false_iff_ne];exact Classical.or_iff_not_imp_left.mpr (fun h1 h2 => this ⟨Classical.not_not.mp h1,h2⟩))]
   omega
theorem ck_kind {ns : List Nd} (h : ∀ x,x < ns.length → nodeErr ns x = 0) {f k : Int} (hk : k ≠ 2) : ck ns k ns.length f = if kindAt ns f k < 0 then 0 else 1:=by
 have h1 : ck ns k ns.length f ≤ 1:=ck_one (fun i j hij hj a b c d => node_once h hij hj hk a b c d)
 split
 · rename_i h2
   exact ck_zero (kind_neg.mp h2)
 · rename_i h2
   rw [kind_neg] at h2
   obtain ⟨j,hj⟩:=Classical.not_forall.mp h2
   obtain ⟨hj1,hj2⟩:=Classical.not_imp.mp hj
   have h3:=Classical.not_not.mp hj2
   have:=ck_pos hj1 h3.1 h3.2
   omega
theorem cnt_whole {ns : List Nd} (h : ∀ x,x < ns.length → nodeErr ns x = 0) (j : Nat) : wholeErr ns j = if cnt ns ns.length (gn ns j).f = 3 then 0 else 1:=by
 rw [cnt_ck,ck_kind h (by omega),ck_kind h (by omega),ck_kind h (by omega)]
 unfold wholeErr
 by_cases h1 : kindAt ns (gn ns j).f 1 < 0 <;> by_cases h3 : kindAt ns (gn ns j).f 3 < 0 <;> by_cases h4 : kindAt ns (gn ns j).f 4 < 0 <;> simp [h1,h3,h4]
theorem lst_is {ns : List Nd} {f : Int} : ∀ {n : Nat},n ≤ ns.length → (∃ i,i < n ∧ (gn ns i).f = f ∧ (gn ns i).k = 1) → ∃ s : Nat,lst ns n f = s ∧ s < n ∧ (gn ns s).f = f ∧ (gn ns s).k = 1:=by
 intro n
 induction n with
 | zero => rintro _ ⟨i,hi,-⟩;omega
 | succ n ih =>
   rintro hn ⟨i,hi,h1,h2⟩
   unfold lst
   split
   · rename_i h3
     exact ⟨n,rfl,by omega,h3.1,h3.2⟩
   · rename_i h3
     have : i < n:=by
       rcases Nat.lt_or_ge i n with h4 | h4
       · exact h4
       · obtain rfl : i = n:=by omega
         exact absurd ⟨h1,h2⟩ h3
     obtain ⟨s,a,b,c⟩:=ih (by omega) ⟨i,this,h1,h2⟩
     exact ⟨s,a,by omega,c⟩
theorem ent_calls {ns : List Nd} {es : List Ed} (h : ∀ x,x < ns.length → nodeErr ns x = 0) {f : Int} (hf : ∃ i,i < ns.length ∧ (gn ns i).f = f ∧ (gn ns i).k = 1) (c : Int) : ent es es.length c (lst ns ns.length f) = callsB ns es c f:=by
 obtain ⟨s,hs,hlt,h1,h2⟩:=lst_is (Nat.le_refl _) hf
 rw [hs]
 have key : ∀ j,callB ns c f (ge es j) = true ↔ ((ge es j).k = 2 ∧ (ge es j).a = c ∧ (ge es j).b = (s : Int)):=by
   intro j
   unfold callB
   simp only [Bool.and_eq_true,decide_eq_true_eq]
   constructor
   · rintro ⟨⟨⟨⟨⟨a1,a2⟩,a3⟩,a4⟩,a5⟩,a6⟩
     refine ⟨a1,a2,?_⟩
     have h7 : (ge es j).b.toNat < ns.length:=by omega
     rcases Nat.lt_trichotomy (ge es j).b.toNat s with h8 | h8 | h8
     · exact absurd (node_once h h8 hlt (k:=1) (by omega) a5 a6 h1 h2) id
     · omega
     · exact absurd (node_once h h8 h7 (k:=1) (by omega) h1 h2 a5 a6) id
   · rintro ⟨a1,a2,a3⟩
     have : (ge es j).b.toNat = s:=by omega
     rw [this]
     exact ⟨⟨⟨⟨⟨a1,a2⟩,by omega⟩,by omega⟩,h1⟩,h2⟩
 cases hb : callsB ns es c f with
 | false =>
   cases he : ent es es.length c s with
   | false => rfl
   | true =>
     obtain ⟨j,hj,hh⟩:=(ent_iff es c s es.length).mp he
     rw [calls_hit hj ((key j).mpr hh)] at hb
     cases hb
 | true =>
   unfold callsB at hb
   rw [List.any_eq_true] at hb
   obtain ⟨x,hx,hb⟩:=hb
   obtain ⟨j,hj,rfl⟩:=List.getElem_of_mem hx
   rw [← ge_lt hj] at hb
   exact (ent_iff es c s es.length).mpr ⟨j,hj,(key j).mp hb⟩
end Sp
end Go.Df
