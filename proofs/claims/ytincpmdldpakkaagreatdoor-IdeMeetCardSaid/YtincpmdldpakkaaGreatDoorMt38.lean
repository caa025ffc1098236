/- Texts: Ef Ay Aw Az Ai. -/
import Derived.Test.YtincpmdldpakkaaGreatDoorMt07
import Derived.Test.YtincpmdldpakkaaGreatDoorMt06
import Derived.Test.YtincpmdldpakkaaGreatDoorMt11
import Derived.Test.YtincpmdldpakkaaGreatDoorMt37
import Derived.Test.YtincpmdldpakkaaGreatDoorMt09
import Derived.Test.YtincpmdldpakkaaGreatDoorMt35
import Derived.Test.YtincpmdldpakkaaGreatDoorMt18
namespace Go.Proofs.YtincpmdldpakkaaGreatDoor
open Go.RowKit Go.Df
attribute [local go_sem ↓] Go.wp_at_zero Go.wp_at_succ
set_option maxRecDepth 100000 in
set_option maxHeartbeats 8000000 in
theorem ideck_any (A1 A2 A3 A4 : Option Addr) (n1 c1 n2 c2 n3 c3 n4 c4 : Nat) (mn F : Int) (ns : List Sp.Nd) (es : List Sp.Ed) (ls : List (List Sp.Xp)) (sd : List Sp.Vs) (w : World) (hn : Nds w A1 n1 ns) (he : Eds w A2 n2 es) (hf : Fls w A3 n3 ls) (hsd : Vss w A4 n4 sd) (h4 : n4 ≤ 9223372036854775807) (hwn : ∀ j,j < n1 → (Lit.int .i64 (gn ns j).f).wf = true) (hwe : ∀ j,j < n2 → (Lit.int .i64 (ge es j).a).wf = true ∧ (Lit.int .i64 (ge es j).b).wf = true) (hgv : Gv w) :
   Calls Tryz.prog 31 #[.agg #[.slice A1 n1 c1,.slice A2 n2 c2,.int .i64 mn,.int .i64 F,.slice A3 n3 c3,.slice A4 n4 c4]] w fun e w' => e = .returned (.int .i64 (Sp.ideErr ns es mn F ls sd)) ∧ Below w.heap.size w w':=by
 have HN:=Lib.hid hn
 have HE:=Lib.hid he
 have HF:=Lib.hid hf
 have HS:=Lib.hid hsd
 have HL1:=Lib.hid hn.1
 have HL2:=Lib.hid he.1
 have HL3:=Lib.hid hf.1
 have HL4:=Lib.hid hsd.1
 have HWN:=Lib.hid hwn
 have HWE:=Lib.hid hwe
 have HGV:=Lib.hid hgv
 clear hn he hf hsd hwn hwe hgv
 go_enter Tryz.func31,Tryz.ntmps31
 go_upto_region 1 with fail
 refine wp_named (fun W => ∃ b0,w.heap.size = b0 ∧ Blk W b0 [.slice A1 n1 c1,.slice A2 n2 c2,.int .i64 mn,.int .i64 F,.slice A3 n3 c3,.slice A4 n4 c4] ∧ Below w.heap.size w W) ⟨_,rfl,?_,?_⟩ ?_
 · exact kbn
 · go_grown
 rintro W ⟨b0,e0,B0,hB⟩
 rw [e0]
 have G0 : w.heap.size ≤ b0:=by omega
 clear e0
 have ⟨L0,C0,F0⟩:=B0
 go_wp2_with fail
 refine (super_any _ _ _ _ _ _ _ ns es _ (HN.out.later hB) (HE.out.later hB) HWN.out HWE.out).mono ?_
 rintro e w1 ⟨rfl,hb1⟩
 have hk1 : Kept [] W w1:=(Kept.refl _ _).call hb1
 have hB1:=hk1.below hB hB.size (by simp)
 have ⟨L1,C1,F1⟩:=hk1.blk (by simp) B0
 clear C0 F0
 obtain ⟨se,hse⟩ : ∃ x,Sp.superErr ns es mn = x:=⟨_,rfl⟩
 rw [hse]
 have HSE:=Lib.hid hse
 clear hse
 by_cases h0 : se = 0
 case neg =>
   have h0' : (se != 0) = true:=by simpa using h0
   have hE : Hid (Sp.ideErr ns es mn F ls sd = se):=by show _ = _;unfold Sp.ideErr;rw [HSE.out,if_pos h0]
   clear h0
   go_wp2_with fail
   go_ret
   exact ⟨ret_int hE.out.symm,hB1⟩
 subst h0
 by_cases f1 : F < 1
 · have z : decide (F < 1) = true:=by simpa using f1
   have hE : Hid (Sp.ideErr ns es mn F ls sd = 4):=by show _ = _;unfold Sp.ideErr;rw [HSE.out,if_neg (by simp),if_pos (by omega)]
   go_wp2_with fail
   go_ret
   exact ⟨ret_int hE.out.symm,hB1⟩
 have z1 : decide (F < 1) = false:=by simpa using f1
 by_cases f2 : 1024 < F
 · have z : decide (1024 < F) = true:=by simpa using f2
   have hE : Hid (Sp.ideErr ns es mn F ls sd = 4):=by show _ = _;unfold Sp.ideErr;rw [HSE.out,if_neg (by simp),if_pos (by omega)]
   go_wp2_with fail
   go_ret
   exact ⟨ret_int hE.out.symm,hB1⟩
 have z2 : decide (1024 < F) = false:=by simpa using f2
 have HFF : Hid (¬ (F < 1 ∨ 1024 < F)):=by show ¬ _;omega
 by_cases f3 : n3 = n2
 case neg =>
   have y1 : ((n3 : Int) != (n2 : Int)) = true:=by simp;omega
   have y2 : (n3 != n2) = true:=by simp;omega
   have hE : Hid (Sp.ideErr ns es mn F ls sd = 20):=by show _ = _;unfold Sp.ideErr;rw [HSE.out,if_neg (by simp),if_neg HFF.out,if_pos (by rw [HL3.out,HL2.out];exact f3)]
   go_wp2_with fail
   go_ret
   exact ⟨ret_int hE.out.symm,hB1⟩
 have y1 : ((n3 : Int) != (n2 : Int)) = false:=by simp;omega
 have y2 : (n3 != n2) = false:=by simp;omega
 have HLL : Hid (ls.length = es.length):=by show _ = _;rw [HL3.out,HL2.out];exact f3
 have hn2 : n2 ≤ 32768:=by
   have h1:=HSE.out
   unfold Sp.superErr at h1
   rw [HL1.out,HL2.out] at h1
   split at h1
   · cases h1
   · omega
 subst f3
 clear f1 f2
 go_wp2_with fail
 go_loopw [36] (fun i wr => ∃ j : Nat,j ≤ n3 ∧ i = .int .i64 j ∧ Kept [] W wr ∧ Hid (∀ x,x < j → Sp.pairsErr F (Sp.gl ls x) = 0)) (fun i _ => n3 - (intOf i).toNat)
 case atStart => exact ⟨0,Nat.zero_le _,rfl,hk1,Lib.hid (fun j hj => absurd hj (by omega))⟩
 case round =>
   obtain ⟨j,hj,rfl,hkr,hno⟩:=hrel
   have BR:=hkr.blk (by simp) B0
   have ⟨LR,CR,FR⟩:=BR
   have hBr:=hkr.below hB hB.size (by simp)
   clear C1 F1
   by_cases hlt : j < n3
   · obtain ⟨b,o,rfl,hl,hc⟩:=(HF.out.later hBr).2 (by omega)
     obtain ⟨Ai,ni,ci,h1,hx⟩:=hc j hlt
     have HX:=Lib.hid hx
     clear hc hx
     have hbad : Hid (∀ e,Sp.pairsErr F (Sp.gl ls j) = e → e ≠ 0 → Sp.ideErr ns es mn F ls sd = e):=fun e h1 h2 => Sp.ide_flow HSE.out HFF.out HLL.out hno.out (by rw [HL3.out];exact hlt) h1 h2
     have hstep : Hid (Sp.pairsErr F (Sp.gl ls j) = 0 → ∀ x,x < j + 1 → Sp.pairsErr F (Sp.gl ls x) = 0):=fun h0 x hx => by
       rcases Nat.lt_or_ge x j with h9 | h9
       · exact hno.out x h9
       · obtain rfl : x = j:=by omega
         exact h0
     obtain ⟨pe,hpe⟩ : ∃ x,Sp.pairsErr F (Sp.gl ls j) = x:=⟨_,rfl⟩
     have HPE:=Lib.hid hpe
     clear hpe
     go_wp2_with fail
     refine (cpairs_any _ _ _ F (Sp.gl ls j) _ HX.out (HGV.out.later hBr)).mono ?_
     rw [HPE.out]
     rintro e w5 ⟨rfl,hb5⟩
     clear CR FR h1
     have hk5 : Kept [] W w5:=hkr.call hb5
     have hB5:=hk5.below hB hB.size (by simp)
     by_cases hx0 : pe = 0
     · have hx0' : (pe != 0) = false:=by simpa using hx0
       have hfin:=Lib.hid (hstep.out (HPE.out.trans hx0))
       clear hx0
       go_wp2_with fail
       exact ⟨⟨j + 1,by omega,by go_num,hk5,hfin⟩,by simp [intOf];omega⟩
     · have hx0' : (pe != 0) = true:=by simpa using hx0
       have hE:=Lib.hid (hbad.out pe HPE.out hx0)
       clear hx0
       go_wp2_with fail
       go_ret
       exact ⟨ret_int hE.out.symm,hB5⟩
   · obtain rfl : j = n3:=by omega
     have hall : Hid (∀ x,x < ls.length → Sp.pairsErr F (Sp.gl ls x) = 0):=fun x hx => hno.out x (by rw [HL3.out] at hx;exact hx)
     clear hno hlt
     go_wp2_with fail
     go_loopw [51] (fun i wz => ∃ q : Nat,q ≤ n4 ∧ i = .int .i64 q ∧ Kept [] W wz ∧ Hid (∀ x,x < q → Sp.seedErr n1 F sd x = 0)) (fun i _ => n4 - (intOf i).toNat)
     case atStart => exact ⟨0,Nat.zero_le _,rfl,hkr,Lib.hid (fun j hj => absurd hj (by omega))⟩
     case round =>
       rename World => wz
       obtain ⟨q,hq,rfl,hkz,hno⟩:=hrel
       have BZ:=hkz.blk (by simp) B0
       have ⟨LZ,CZ,FZ⟩:=BZ
       have hBz:=hkz.below hB hB.size (by simp)
       clear CR FR
       by_cases hlt : q < n4
       case neg =>
         obtain rfl : q = n4:=by omega
         have hE:=Lib.hid (Sp.ide_ok (sd:=sd) HSE.out HFF.out HLL.out hall.out (fun x hx => by rw [HL1.out];exact hno.out x (by rw [HL4.out] at hx;exact hx)))
         go_wp2_with fail
         go_ret
         exact ⟨ret_int hE.out.symm,hBz⟩
       obtain ⟨b,o,rfl,hl,hc⟩:=(HS.out.later hBz).2 (by omega)
       obtain ⟨h1,h2,h3,h5⟩:=hc q hlt
       have HC:=Lib.hid hc
       have LB:=Lib.hid hl
       clear hc
       obtain ⟨sn,sf,sk,sv,en⟩ : ∃ sn sf sk sv,Sp.gs sd q = ⟨sn,sf,sk,sv⟩:=⟨_,_,_,_,rfl⟩
       rw [en] at h1 h2 h3 h5
       have HEe:=Lib.hid en
       clear en
       go_upto_region 18 with fail
       refine wp_named (fun V => ∃ g,wz.heap.size = g ∧ Blk V g [.int .i64 sn,.int .i64 sf,.int .i64 sk,.int .i64 sv] ∧ Kept [] wz V) ⟨_,rfl,Blk.new _ _ _ _ rfl,(Kept.refl _ _).alloc _⟩ ?_
       rintro V ⟨g,eg,Bg,hkV⟩
       rw [eg]
       have hkw : Kept [] W V:=keptTrans hkz hkV
       have ⟨LG,CG,FG⟩:=Bg
       have BV:=hkw.blk (by simp) B0
       have ⟨LV,CV,FV⟩:=BV
       have hBV:=hkw.below hB hB.size (by simp)
       clear CZ FZ h1 h2 h3 h5 eg
       have hbad : Hid (∀ e,Sp.seedErr n1 F sd q = e → e ≠ 0 → Sp.ideErr ns es mn F ls sd = e):=fun e h1 h2 => Sp.ide_seed HSE.out HFF.out HLL.out hall.out (j:=q) (fun x hx => by rw [HL1.out];exact hno.out x hx) (by rw [HL4.out];exact hlt) (by rw [HL1.out];exact h1) h2
       have hstep : Hid (Sp.seedErr n1 F sd q = 0 → ∀ x,x < q + 1 → Sp.seedErr n1 F sd x = 0):=fun h0 x hx => by
         rcases Nat.lt_or_ge x q with h9 | h9
         · exact hno.out x h9
         · obtain rfl : x = q:=by omega
           exact h0
       obtain ⟨ve,hve⟩ : ∃ x,Sp.verr sk sv = x:=⟨_,rfl⟩
       have HVE:=Lib.hid hve
       have HEr : Hid (Sp.seedErr n1 F sd q = if sn < 0 ∨ (n1 : Int) ≤ sn ∨ sf < 1 ∨ F ≤ sf then 4 else if ve ≠ 0 then ve else if 0 < q ∧ Sp.lessS (Sp.gs sd (q - 1)) ⟨sn,sf,sk,sv⟩ = false then 13 else 0):=by
         show _ = _
         unfold Sp.seedErr
         rw [HEe.out]
         dsimp only
         rw [hve]
       clear hve
       by_cases r0 : sn < 0
       · have z : decide (sn < 0) = true:=by simpa using r0
         have hE:=Lib.hid (hbad.out 4 (by rw [HEr.out,if_pos (by omega)]) (by omega))
         go_wp2_with fail
         go_ret
         exact ⟨ret_int hE.out.symm,hBV⟩
       have r0' : decide (sn < 0) = false:=by simpa using r0
       by_cases r1 : (n1 : Int) ≤ sn
       · have z : decide ((n1 : Int) ≤ sn) = true:=by simpa using r1
         have hE:=Lib.hid (hbad.out 4 (by rw [HEr.out,if_pos (by omega)]) (by omega))
         go_wp2_with fail
         go_ret
         exact ⟨ret_int hE.out.symm,hBV⟩
       have r1' : decide ((n1 : Int) ≤ sn) = false:=by simpa using r1
       by_cases r2 : sf < 1
       · have z : decide (sf < 1) = true:=by simpa using r2
         have hE:=Lib.hid (hbad.out 4 (by rw [HEr.out,if_pos (by omega)]) (by omega))
         go_wp2_with fail
         go_ret
         exact ⟨ret_int hE.out.symm,hBV⟩
       have r2' : decide (sf < 1) = false:=by simpa using r2
       by_cases r3 : F ≤ sf
       · have z : decide (F ≤ sf) = true:=by simpa using r3
         have hE:=Lib.hid (hbad.out 4 (by rw [HEr.out,if_pos (by omega)]) (by omega))
         go_wp2_with fail
         go_ret
         exact ⟨ret_int hE.out.symm,hBV⟩
       have r3' : decide (F ≤ sf) = false:=by simpa using r3
       have HEy : Hid (Sp.seedErr n1 F sd q = if ve ≠ 0 then ve else if 0 < q ∧ Sp.lessS (Sp.gs sd (q - 1)) ⟨sn,sf,sk,sv⟩ = false then 13 else 0):=by
         show _ = _
         rw [HEr.out,if_neg (by omega)]
       clear HEr r0 r1 r2 r3
       go_wp2_with fail
       refine (vcheckv_any sk sv _).mono ?_
       rw [HVE.out]
       rintro e w6 ⟨rfl,hb6⟩
       have hkV6 : Kept [] V w6:=(Kept.refl _ _).call hb6
       have hk6 : Kept [] W w6:=keptTrans hkw hkV6
       have hB6:=hk6.below hB hB.size (by simp)
       have ⟨LG6,CG6,FG6⟩:=hkV6.blk (by simp) Bg
       have BG6:=hkV6.blk (by simp) Bg
       have ⟨LV6,CV6,FV6⟩:=hk6.blk (by simp) B0
       clear CG FG CV FV
       by_cases v0 : ve = 0
       case neg =>
         have v0' : (ve != 0) = true:=by simpa using v0
         have hE:=Lib.hid (hbad.out ve (by rw [HEy.out,if_pos v0]) v0)
         clear v0
         go_wp2_with fail
         go_ret
         exact ⟨ret_int hE.out.symm,hB6⟩
       subst v0
       have HEw : Hid (Sp.seedErr n1 F sd q = if 0 < q ∧ Sp.lessS (Sp.gs sd (q - 1)) ⟨sn,sf,sk,sv⟩ = false then 13 else 0):=by
         show _ = _
         rw [HEy.out,if_neg (by simp)]
       clear HEy
       by_cases hq0 : q = 0
       · have y3 : decide (0 < q) = false:=by simp;omega
         have y4 : decide ((0 : Int) < (q : Int)) = false:=by simp;omega
         have hfin:=Lib.hid (hstep.out (by rw [HEw.out,if_neg (by omega)]))
         clear hq0
         go_wp2_with fail
         exact ⟨⟨q + 1,by omega,by go_num,hk6,hfin⟩,by simp [intOf];omega⟩
       have y3 : decide (0 < q) = true:=by simp;omega
       have y4 : decide ((0 : Int) < (q : Int)) = true:=by simp;omega
       have w3 : IntKind.i64.wrap ((q : Int) - 1) = (q : Int) - 1:=IntWalk.i64_in _ (by omega)
       have w4 : (0 : Int) ≤ (q : Int) - 1:=by omega
       have w5 : ((q : Int) - 1).toNat = q - 1:=by omega
       have w7 : (q : Int) - 1 < (n4 : Int):=by omega
       have w8 : 0 < q:=by omega
       have w9 : 1 ≤ q:=by omega
       have w10 : (1 : Int) ≤ (q : Int):=by omega
       have w11 : q ≤ n4:=by omega
       have w12 : q < n4 + 1:=by omega
       have w13 : (q : Int) < (n4 : Int) + 1:=by omega
       have w14 : (q : Int) ≤ (n4 : Int):=by omega
       obtain ⟨p1,p2,p3,p4⟩:=HC.out (q - 1) (by omega)
       obtain ⟨pn,pf,pk,pv,ep⟩ : ∃ pn pf pk pv,Sp.gs sd (q - 1) = ⟨pn,pf,pk,pv⟩:=⟨_,_,_,_,rfl⟩
       rw [ep] at p1 p2 p3 p4
       have hkz6 : Kept [] wz w6:=keptTrans hkV hkV6
       have q1:=(hkz6.cell b _ LB.out (by simp)).trans p1
       have q2:=(hkz6.cell b _ LB.out (by simp)).trans p2
       have q3:=(hkz6.cell b _ LB.out (by simp)).trans p3
       have q4:=(hkz6.cell b _ LB.out (by simp)).trans p4
       have hb6' : b < w6.heap.size:=Nat.lt_of_lt_of_le LB.out hkz6.size
       have HEx : Hid (Sp.seedErr n1 F sd q = if Sp.lessS ⟨pn,pf,pk,pv⟩ ⟨sn,sf,sk,sv⟩ = false then 13 else 0):=by
         show _ = _
         rw [HEw.out,ep]
         simp [w8]
       clear p1 p2 p3 p4 ep hq0 HEw
       go_upto_region 25 with fail
       refine wp_named (fun U => ∃ h,w6.heap.size = h ∧ Blk U h [.int .i64 pn,.int .i64 pf,.int .i64 pk,.int .i64 pv] ∧ Kept [] w6 U) ⟨_,rfl,Blk.new _ _ _ _ rfl,(Kept.refl _ _).alloc _⟩ ?_
       rintro U ⟨h,eh,Bh,hkU⟩
       rw [eh]
       have ⟨LH,CH,FH⟩:=Bh
       have ⟨LU,CU,FU⟩:=hkU.blk (by simp) BG6
       have hkWU : Kept [] W U:=keptTrans hk6 hkU
       clear CG6 FG6 CV6 FV6 q1 q2 q3 q4 eh
       go_cut [106] (fun s wx => s = .bool (!Sp.lessS ⟨pn,pf,pk,pv⟩ ⟨sn,sf,sk,sv⟩) ∧ Kept [] U wx)
       case first =>
         go_region_held3 (fun w' => SX0 U w') (exact kp0)
           (first | (go_at_call 55;refine (compare_any _ _ _).mono ?_;rintro e w1 ⟨rfl,rfl⟩) | (go_at_call 54;refine (or_any _ _ _ [Sp.cmpI pn sn,Sp.cmpI pf sf] _ (by first | exact two_ints _ _ _ _ _ (by first | rfl | simp) | exact Ints.drew (two_ints _ _ _ _ _ (by first | rfl | simp))) (by omega) (by omega)).mono ?_;rintro e w2 ⟨rfl,rfl⟩))
         all_goals
           go_wp2_with fail
           go_meet
           refine ⟨congrArg Value.bool (Sp.ordS_ge ⟨pn,pf,pk,pv⟩ ⟨sn,sf,sk,sv⟩),?_⟩
           (exact kpt0)
       case rest =>
         obtain ⟨rfl,hkc⟩:=hcut
         have hkwc : Kept [] W wc:=keptTrans hkWU hkc
         by_cases hles : Sp.lessS ⟨pn,pf,pk,pv⟩ ⟨sn,sf,sk,sv⟩ = true
         · rw [hles]
           have hfin:=Lib.hid (hstep.out (by rw [HEx.out,hles,if_neg (by simp)]))
           clear hles
           go_wp2_with fail
           exact ⟨⟨q + 1,by omega,by go_num,hkwc,hfin⟩,by simp [intOf];omega⟩
         · rw [Bool.not_eq_true] at hles
           rw [hles]
           have hE:=Lib.hid (hbad.out 13 (by rw [HEx.out,hles,if_pos rfl]) (by omega))
           clear hles
           go_wp2_with fail
           go_ret
           exact ⟨ret_int hE.out.symm,hkwc.below hB hB.size (by simp)⟩
end Go.Proofs.YtincpmdldpakkaaGreatDoor
namespace Go.Proofs.YtincpmdldpakkaaGreatDoor
open Go.RowKit Go.Df Go.Df.Iv Go.Df.Sp
def GetA (p : Vb) (N : Nat) (pe : Int) (w : World) (e : Ending) (w' : World) : Prop :=
 (pe = 0 ∧ GetU p N p.F.toNat w e w') ∨ (pe ≠ 0 ∧ e = .returned (.tuple #[.agg #[.slice none 0 0],.int .i64 pe]) ∧ Below w.heap.size w w')
structure Lies (p : Vb) (A1 A2 A3 A4 : Option Addr) (n1 n2 n3 n4 : Nat) (w : World) : Prop where
 nd : Nds w A1 n1 p.ns
 ed : Eds w A2 n2 p.es
 fl : Fls w A3 n3 p.fl
 sd : Vss w A4 n4 p.sd
 fc : ∀ b o i A n c,A3 = some ⟨b,o,none⟩ → i < n3 → w.cell? ⟨b,o + i,none⟩ = some (.slice A n c) → n ≤ c
 wn : ∀ j,j < n1 → (Lit.int .i64 (gn p.ns j).f).wf = true
 we : ∀ j,j < n2 → (Lit.int .i64 (ge p.es j).a).wf = true ∧ (Lit.int .i64 (ge p.es j).b).wf = true
 fit : VFit p
 n4 : n4 ≤ 1000000
theorem psolve_any {p : Vb} (A1 A2 A3 A4 : Option Addr) (n1 c1 n2 c2 n3 c3 n4 c4 : Nat) (w : World) (h : Lies p A1 A2 A3 A4 n1 n2 n3 n4 w) (hgv : Gv w) (hmu : vErr p = 0 → mu0 p ≤ 1000000) :
   Calls Tryz.prog 10 #[.agg #[.slice A1 n1 c1,.slice A2 n2 c2,.int .i64 p.mn,.int .i64 p.F,.slice A3 n3 c3,.slice A4 n4 c4]] w (GetA p n1 (vErr p) w):=by
 have h4:=h.n4
 have hck : ∀ w1,Below w.heap.size w w1 → Calls Tryz.prog 31 #[.agg #[.slice A1 n1 c1,.slice A2 n2 c2,.int .i64 p.mn,.int .i64 p.F,.slice A3 n3 c3,.slice A4 n4 c4]] w1 fun e w' => e = .returned (.int .i64 (vErr p)) ∧ Below w1.heap.size w1 w':=fun w1 hb =>
   ideck_any A1 A2 A3 A4 n1 c1 n2 c2 n3 c3 n4 c4 p.mn p.F p.ns p.es p.fl p.sd w1 (h.nd.later hb) (h.ed.later hb) (h.fl.later hb) (h.sd.later hb) (by omega) h.wn h.we (hgv.later hb)
 by_cases h0 : vErr p = 0
 · have ho:=vok_of h0
   have hm:=If.main_in (If.sup_parts ho.sup).2.2.1
   obtain ⟨mN,hmN⟩:=Int.eq_ofNat_of_zero_le (show 0 ≤ p.mn by omega)
   obtain ⟨f,hf⟩:=Int.eq_ofNat_of_zero_le (show 0 ≤ p.F by have:=ho.f1;omega)
   have hr:=psolve_ok (K0:=⟨A1,A2,A3,A4,n1,c1,n2,c2,n3,c3,n4,c4,0,0,0,0,0,0,0,0,fun _ => 0,fun _ => none,fun _ => 0,fun _ _ => .slice none 0 0⟩) w mN f ⟨h.nd,h.ed,h.fl,h.sd,h.fc⟩ hgv ho h.fit hmN hf h.n4 (hmu h0) (fun w1 hb => by
     have h9:=hck w1 hb
     rw [h0,hmN,hf] at h9
     exact h9)
   rw [← hmN,← hf] at hr
   refine hr.mono (fun e w' h9 => .inl ⟨h0,?_⟩)
   rw [hf,Int.toNat_natCast]
   exact h9
 · exact (psolve_err A1 A2 A3 A4 n1 c1 n2 c2 n3 c3 n4 c4 p.mn p.F (vErr p) w h0 hck).mono (fun e w' h9 => .inr ⟨h0,h9⟩)
end Go.Proofs.YtincpmdldpakkaaGreatDoor
namespace Go.Proofs.YtincpmdldpakkaaGreatDoor
open Go.RowKit Go.Df Go.Df.Iv Go.Df.Sp
attribute [local go_sem ↓] Go.wp_at_zero Go.wp_at_succ
set_option maxRecDepth 100000 in
set_option maxHeartbeats 4000000 in
theorem rsamev_eq {N f go1 go2 c1 c2 : Nat} {rw1 rc1 rw2 rc2 : Nat → Nat} {S1 S2 : Nat → Nat → U} (w : World) (h1 : Vw N f w go1 rw1 rc1 S1) (h2 : Vw N f w go2 rw2 rc2 S2) (he : ∀ n d,n < N → d < f → S1 n d = S2 n d) (hN : N ≤ 8192) (hf : f ≤ 1024) :
   Calls Tryz.prog 17 #[.agg #[.slice (some ⟨go1,0,none⟩) N c1],.agg #[.slice (some ⟨go2,0,none⟩) N c2]] w fun e w' => e = .returned (.bool true) ∧ Below w.heap.size w w':=by
 have H1:=Lib.hid h1
 have H2:=Lib.hid h2
 have HE:=Lib.hid he
 clear h1 h2 he
 go_enter Tryz.func17,Tryz.ntmps17
 go_upto_region 1 with fail
 refine wp_named (fun W => ∃ b0 b1,w.heap.size = b0 ∧ w.heap.size + 1 = b1 ∧ Blk W b0 [.slice (some ⟨go1,0,none⟩) N c1] ∧ Blk W b1 [.slice (some ⟨go2,0,none⟩) N c2] ∧ Below w.heap.size w W) ⟨_,_,rfl,rfl,?_,?_,?_⟩ ?_
 · exact (Blk.new _ _ _ _ (by first | rfl | simp)).alloc _
 · exact kbn
 · go_grown
 rintro W ⟨b0,b1,e0,e1,B0,B1,hB⟩
 rw [e1,e0]
 have G0 : w.heap.size ≤ b0:=by omega
 have n01 : b0 ≠ b1:=by omega
 have G1 : w.heap.size ≤ b1:=by omega
 have n10 : b1 ≠ b0:=by omega
 clear e0 e1
 have ⟨L0,C0,F0⟩:=B0
 have ⟨L1,C1,F1⟩:=B1
 have hkW : Hid (Kept [] w W):=Lib.hid ((Kept.refl _ _).call hB)
 have HB0:=Lib.hid B0
 have HB1:=Lib.hid B1
 go_wp2_with fail
 clear C0 F0 C1 F1
 go_loopw [5] (fun s5 wr => ∃ i : Nat,i ≤ N ∧ s5 = .int .i64 i ∧ Hid (Kept [] W wr)) (fun s5 _ => N - (intOf s5).toNat)
 case atStart => exact ⟨0,Nat.zero_le _,rfl,Lib.hid (Kept.refl _ _)⟩
 case round =>
 obtain ⟨i,hi,rfl,hkr⟩:=hrel
 have ⟨L0r,C0r,F0r⟩:=hkr.out.blk (by simp) HB0.out
 have ⟨L1r,C1r,F1r⟩:=hkr.out.blk (by simp) HB1.out
 have hkwr : Kept [] w wr:=keptTrans hkW.out hkr.out
 by_cases hlt : i < N
 case neg =>
   obtain rfl : i = N:=by omega
   go_wp2_with fail
   go_ret
   exact ⟨rfl,hkwr.toBelow⟩
 have V1:=Lib.hid (H1.out.keep hkwr)
 have V2:=Lib.hid (H2.out.keep hkwr)
 have r1:=V1.out.row i hlt
 have r2:=V2.out.row i hlt
 have g1:=V1.out.glt
 have g2:=V2.out.glt
 have hi9 : (i : Int) < (N : Int):=by omega
 go_upto_region 6 with fail
 go_quiet (fail)
 clear r1 r2 C0r F0r C1r F1r L0r L1r
 go_wp2_with fail
 go_loopw [6] (fun s6 wq => ∃ j : Nat,j ≤ f ∧ s6 = .int .i64 j ∧ Hid (Kept [] wr wq)) (fun s6 _ => f - (intOf s6).toNat)
 case atStart => exact ⟨0,Nat.zero_le _,rfl,Lib.hid ((Kept.refl [] wr).drewN _)⟩
 case round =>
 rename World => wq
 obtain ⟨j,hj,rfl,hkq⟩:=hrel
 have hkWq:=keptTrans hkr.out hkq.out
 have ⟨L0q,C0q,F0q⟩:=hkWq.blk (by simp) HB0.out
 have ⟨L1q,C1q,F1q⟩:=hkWq.blk (by simp) HB1.out
 have Q1:=Lib.hid (V1.out.keep hkq.out)
 have Q2:=Lib.hid (V2.out.keep hkq.out)
 have q1:=Q1.out.row i hlt
 have q2:=Q2.out.row i hlt
 have g1q:=Q1.out.glt
 have g2q:=Q2.out.glt
 by_cases hlj : j < f
 case neg =>
   obtain rfl : j = f:=by omega
   go_wp2_with fail
   exact ⟨⟨i + 1,by omega,by go_num,Lib.hid hkWq⟩,by simp [intOf];omega⟩
 obtain ⟨z0,z1,ez⟩ : ∃ z0 z1,(S2 i j).1 = ⟨z0,z1⟩:=⟨_,_,rfl⟩
 have c10:=(Q1.out.cell i j hlt hlj).1
 have c11:=(Q1.out.cell i j hlt hlj).2
 have c20:=(Q2.out.cell i j hlt hlj).1
 have c21:=(Q2.out.cell i j hlt hlj).2
 rw [HE.out i j hlt hlj,ez] at c10 c11
 rw [ez] at c20 c21
 have l1:=Q1.out.lt i hlt
 have l2:=Q2.out.lt i hlt
 have hj9 : (j : Int) < (f : Int):=by omega
 clear ez
 go_upto_region 11 with fail
 go_quiet (fail)
 go_wp2_with fail
 exact ⟨⟨j + 1,by omega,by go_num,Lib.hid (keptTrans hkq.out ((Kept.refl [] wq).drewN _))⟩,by simp [intOf];omega⟩
end Go.Proofs.YtincpmdldpakkaaGreatDoor
namespace Go.Df
open Go.RowKit
namespace Iv
open Sp
theorem sum_const {α : Type} (c : Nat) : ∀ l : List α,(l.map fun _ => c).sum = l.length * c
 | [] => by simp
 | _ :: l => by
   have h:=sum_const c l
   simp only [List.map_cons,List.sum_cons,h,List.length_cons,Nat.succ_mul]
   omega
theorem flat_len {α β : Type} (f : α → List β) (c : Nat) : ∀ l : List α,(∀ x ∈ l,(f x).length = c) → (l.flatMap f).length = l.length * c
 | [],_ => by simp
 | x :: l,h => by
   have h1:=flat_len f c l (fun y hy => h y (List.mem_cons_of_mem _ hy))
   have h2:=h x (by simp)
   simp only [List.flatMap_cons,List.length_append,h1,h2,List.length_cons,Nat.succ_mul]
   omega
theorem trip_len (N F : Nat) : (trip N F).length = N * (F * F):=by
 unfold trip
 rw [flat_len _ (F * F) _ (fun x _ => by rw [flat_len _ F _ (fun y _ => by simp)];simp)]
 simp
theorem duo_len (N F : Nat) : (duo N F).length = N * F:=by
 unfold duo
 rw [flat_len _ F _ (fun x _ => by simp)]
 simp
theorem mu_small {p : Vb} (h1 : p.ns.length ≤ 36) (h2 : p.F ≤ 6) : mu0 p ≤ 1000000:=by
 unfold mu0 muT muV
 rw [sum_const,sum_const,trip_len,duo_len]
 have hF : p.F.toNat ≤ 6:=by omega
 have a1 : stp top ≤ 10:=by decide
 have a2 : stpV topV ≤ 10:=by decide
 have b1 : p.F.toNat * p.F.toNat ≤ 6 * 6:=Nat.mul_le_mul hF hF
 have b2 : p.ns.length * (p.F.toNat * p.F.toNat) ≤ 36 * 36:=Nat.mul_le_mul h1 b1
 have b3 : p.ns.length * p.F.toNat ≤ 36 * 6:=Nat.mul_le_mul h1 hF
 have c1:=Nat.mul_le_mul b2 a1
 have c2:=Nat.mul_le_mul b3 a2
 omega
end Iv
end Go.Df
namespace Go.Proofs.YtincpmdldpakkaaGreatDoor
open Go.RowKit Go.Df Go.Df.Iv Go.Df.Sp
end Go.Proofs.YtincpmdldpakkaaGreatDoor
namespace Go.Df
open Go.RowKit
namespace Iv
open Sp
def v1 : Vb:=⟨[⟨0,1,-1⟩,⟨0,2,0⟩,⟨0,2,1⟩,⟨0,3,-1⟩,⟨0,4,-1⟩],[⟨0,1,1,-1⟩,⟨1,2,1,-1⟩,⟨2,3,1,-1⟩],0,2,[[⟨0,0,2,0,0⟩,⟨0,1,1,0,5⟩],[⟨0,0,2,0,0⟩,⟨1,1,2,2,0⟩],[⟨0,0,2,0,0⟩]],[]⟩
theorem v1_err : vErr v1 = 0:=by decide
def k5 : D:=⟨⟨1,0,5⟩,by decide,by decide +kernel,by decide +kernel⟩
def k7 : D:=⟨⟨1,0,7⟩,by decide,by decide +kernel,by decide +kernel⟩
def s2 : D:=⟨⟨2,2,0⟩,by decide,by decide +kernel,by decide +kernel⟩
theorem v1_fit : VFit v1:=by
 refine ⟨fun k q hq => ?_,fun s hs => by cases hs⟩
 match k with
 | 0 =>
   have hq : q ∈ [(⟨0,0,2,0,0⟩ : Xp),⟨0,1,1,0,5⟩]:=hq
   simp at hq
   rcases hq with rfl | rfl <;> exact ⟨by decide +kernel,by decide +kernel⟩
 | 1 =>
   have hq : q ∈ [(⟨0,0,2,0,0⟩ : Xp),⟨1,1,2,2,0⟩]:=hq
   simp at hq
   rcases hq with rfl | rfl <;> exact ⟨by decide +kernel,by decide +kernel⟩
 | 2 =>
   have hq : q ∈ [(⟨0,0,2,0,0⟩ : Xp)]:=hq
   simp at hq
   subst hq
   exact ⟨by decide +kernel,by decide +kernel⟩
 | _ + 3 => cases hq
theorem xd_zero : xd ⟨0,0,2,0,0⟩ = shift:=Subtype.ext (xd_is (by decide) (by decide +kernel) (by decide +kernel))
theorem xd_five : xd ⟨0,1,1,0,5⟩ = k5:=Subtype.ext (xd_is (by decide) (by decide +kernel) (by decide +kernel))
theorem xd_two : xd ⟨1,1,2,2,0⟩ = s2:=Subtype.ext (xd_is (by decide) (by decide +kernel) (by decide +kernel))
def v1T (n a d : Nat) : D:=if a ≠ 0 then top else match n,d with
 | 0,0 => shift
 | 1,0 => shift
 | 2,0 => shift
 | 3,0 => shift
 | 1,1 => k5
 | 2,1 => k7
 | _,_ => top
theorem v1T_no {n a d : Nat} (h : a ≠ 0) : v1T n a d = top:=if_pos h
theorem c_shift : comp shift shift = shift:=by decide +kernel
theorem c_five : comp shift k5 = k5:=by decide +kernel
theorem c_seven : comp k5 s2 = k7:=by decide +kernel
theorem v1_len : v1.es.length = 3:=rfl
theorem v1_clo : Clo v1 v1T:=by
 have h0 : ∀ (T : D),le T (comp top (xd ⟨0,0,2,0,0⟩)):=fun T => by rw [top_comp];exact le_top _
 refine ⟨le_refl _,(fun s hs => by cases hs),fun k hk _ q hq a => ?_,fun k hk h2 => ?_,fun c hc h2 => ?_⟩
 · rw [v1_len] at hk
   by_cases ha : a = 0
   · subst ha
     match k,hk with
     | 0,_ =>
       have hq : q ∈ [(⟨0,0,2,0,0⟩ : Xp),⟨0,1,1,0,5⟩]:=hq
       simp at hq
       rcases hq with rfl | rfl
       · rw [xd_zero];show le shift (comp shift shift);rw [c_shift];exact le_refl _
       · rw [xd_five];show le k5 (comp shift k5);rw [c_five];exact le_refl _
     | 1,_ =>
       have hq : q ∈ [(⟨0,0,2,0,0⟩ : Xp),⟨1,1,2,2,0⟩]:=hq
       simp at hq
       rcases hq with rfl | rfl
       · rw [xd_zero];show le shift (comp shift shift);rw [c_shift];exact le_refl _
       · rw [xd_two];show le k7 (comp k5 s2);rw [c_seven];exact le_refl _
     | 2,_ =>
       have hq : q ∈ [(⟨0,0,2,0,0⟩ : Xp)]:=hq
       simp at hq
       subst hq
       rw [xd_zero];show le shift (comp shift shift);rw [c_shift];exact le_refl _
   · rw [v1T_no ha (n:=(ge v1.es k).a.toNat),top_comp]
     exact le_top _
 · rw [v1_len] at hk
   match k,hk with
   | 0,_ => exact absurd h2 (by decide)
   | 1,_ => exact absurd h2 (by decide)
   | 2,_ => exact absurd h2 (by decide)
 · rw [v1_len] at hc
   match c,hc with
   | 0,_ => exact absurd h2 (by decide)
   | 1,_ => exact absurd h2 (by decide)
   | 2,_ => exact absurd h2 (by decide)
theorem v1_snd : Snd v1 v1T:=fun U hU => by
 have h00 : le (U 0 0 0) shift:=hU.main
 have f : ∀ k,k < 3 → (ge v1.es k).k = 1 → ∀ q ∈ gl v1.fl k,le (U (ge v1.es k).b.toNat 0 q.o.toNat) (comp (U (ge v1.es k).a.toNat 0 q.i.toNat) (xd q)):=fun k hk h q hq => hU.flow k hk (.inl h) q hq 0
 have h10 : le (U 1 0 0) shift:=by
   have h1:=f 0 (by omega) rfl ⟨0,0,2,0,0⟩ (by show _ ∈ [(⟨0,0,2,0,0⟩ : Xp),⟨0,1,1,0,5⟩];simp)
   rw [xd_zero] at h1
   exact le_trans h1 (by have h2:=comp_mono h00 (le_refl shift);rw [c_shift] at h2;exact h2)
 have h11 : le (U 1 0 1) k5:=by
   have h1:=f 0 (by omega) rfl ⟨0,1,1,0,5⟩ (by show _ ∈ [(⟨0,0,2,0,0⟩ : Xp),⟨0,1,1,0,5⟩];simp)
   rw [xd_five] at h1
   exact le_trans h1 (by have h2:=comp_mono h00 (le_refl k5);rw [c_five] at h2;exact h2)
 have h20 : le (U 2 0 0) shift:=by
   have h1:=f 1 (by omega) rfl ⟨0,0,2,0,0⟩ (by show _ ∈ [(⟨0,0,2,0,0⟩ : Xp),⟨1,1,2,2,0⟩];simp)
   rw [xd_zero] at h1
   exact le_trans h1 (by have h2:=comp_mono h10 (le_refl shift);rw [c_shift] at h2;exact h2)
 have h21 : le (U 2 0 1) k7:=by
   have h1:=f 1 (by omega) rfl ⟨1,1,2,2,0⟩ (by show _ ∈ [(⟨0,0,2,0,0⟩ : Xp),⟨1,1,2,2,0⟩];simp)
   rw [xd_two] at h1
   exact le_trans h1 (by have h2:=comp_mono h11 (le_refl s2);rw [c_seven] at h2;exact h2)
 have h30 : le (U 3 0 0) shift:=by
   have h1:=f 2 (by omega) rfl ⟨0,0,2,0,0⟩ (by show _ ∈ [(⟨0,0,2,0,0⟩ : Xp)];simp)
   rw [xd_zero] at h1
   exact le_trans h1 (by have h2:=comp_mono h20 (le_refl shift);rw [c_shift] at h2;exact h2)
 intro n a d
 unfold v1T
 split
 · exact le_top _
 · rename_i ha
   obtain rfl : a = 0:=Classical.not_not.mp ha
   split <;> first | exact h00 | exact h10 | exact h20 | exact h30 | exact h11 | exact h21 | exact le_top _
def v1V (n a : Nat) : U:=if n = 0 ∧ a = 0 then botV else topV
theorem v1_vclo : VClo v1 v1T v1V:=by
 refine ⟨leV_refl _,fun k hk h2 => ?_⟩
 rw [v1_len] at hk
 match k,hk with
 | 0,_ => exact absurd h2 (by decide)
 | 1,_ => exact absurd h2 (by decide)
 | 2,_ => exact absurd h2 (by decide)
theorem v1_vsnd : VSnd v1 v1T v1V:=fun Y hY n a => by
 unfold v1V
 split
 · rename_i h;obtain ⟨rfl,rfl⟩:=h;exact hY.main
 · exact leV_top _
theorem v1_sol {S : Nat → Nat → U} (h : IsSol v1 S) {n d : Nat} (hn : n < 5) (hd : d < 2) : S n d = solV v1 v1T v1V n d:=by
 refine h.eq ⟨v1T,v1V,v1_clo,v1_snd,v1_vclo,v1_vsnd,fun n d _ _ => solV_glb (fun a ha => v1T_no (by have : v1.F.toNat = 2:=rfl;omega))⟩ hn hd
theorem v1_21 : (solV v1 v1T v1V 2 1).1 = ⟨1,7⟩:=by decide +kernel
theorem v1_30 : (solV v1 v1T v1V 3 0).1 = ⟨2,0⟩:=by decide +kernel
theorem v1_31 : (solV v1 v1T v1V 3 1).1 = ⟨0,0⟩:=by decide +kernel
theorem v1_40 : (solV v1 v1T v1V 4 0).1 = ⟨0,0⟩:=by decide +kernel
end Iv
end Go.Df
