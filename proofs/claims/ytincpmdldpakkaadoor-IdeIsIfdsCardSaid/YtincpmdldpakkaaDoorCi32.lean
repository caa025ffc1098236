/- Texts: Ef Ee Ay Id. -/
import Derived.Test.YtincpmdldpakkaaDoorCi05
import Derived.Test.YtincpmdldpakkaaDoorCi28
import Derived.Test.YtincpmdldpakkaaDoorCi31
import Derived.Test.YtincpmdldpakkaaDoorCi07
namespace Go.Proofs.YtincpmdldpakkaaDoor
open Go.RowKit Go.Df
attribute [local go_sem ↓] Go.wp_at_zero Go.wp_at_succ
set_option maxRecDepth 100000 in
set_option maxHeartbeats 8000000 in
theorem ideck_any (A1 A2 A3 A4 : Option Addr) (n1 c1 n2 c2 n3 c3 n4 c4 : Nat) (mn F : Int) (ns : List Sp.Nd) (es : List Sp.Ed) (ls : List (List Sp.Xp)) (sd : List Sp.Vs) (w : World) (hn : Nds w A1 n1 ns) (he : Eds w A2 n2 es) (hf : Fls w A3 n3 ls) (hsd : Vss w A4 n4 sd) (h4 : n4 ≤ 9223372036854775807) (hwn : ∀ j, j < n1 → (Lit.int .i64 (gn ns j).f).wf = true) (hwe : ∀ j, j < n2 → (Lit.int .i64 (ge es j).a).wf = true ∧ (Lit.int .i64 (ge es j).b).wf = true) (hgv : Gv w) :
   Calls Tryd.prog 7 #[.agg #[.slice A1 n1 c1, .slice A2 n2 c2, .int .i64 mn, .int .i64 F, .slice A3 n3 c3, .slice A4 n4 c4]] w fun e w' => e = .returned (.int .i64 (Sp.ideErr ns es mn F ls sd)) ∧ Below w.heap.size w w' := by
 have HN := Lib.hid hn
 have HE := Lib.hid he
 have HF := Lib.hid hf
 have HS := Lib.hid hsd
 have HL1 := Lib.hid hn.1
 have HL2 := Lib.hid he.1
 have HL3 := Lib.hid hf.1
 have HL4 := Lib.hid hsd.1
 have HWN := Lib.hid hwn
 have HWE := Lib.hid hwe
 have HGV := Lib.hid hgv
 clear hn he hf hsd hwn hwe hgv
 go_enter Tryd.func7, Tryd.ntmps7
 go_upto_region 1 with fail
 refine wp_named (fun W => ∃ b0, w.heap.size = b0 ∧ Blk W b0 [.slice A1 n1 c1, .slice A2 n2 c2, .int .i64 mn, .int .i64 F, .slice A3 n3 c3, .slice A4 n4 c4] ∧ Below w.heap.size w W) ⟨_, rfl, ?_, ?_⟩ ?_
 · exact Blk.new _ _ _ _ (by first | rfl | simp)
 · go_grown
 rintro W ⟨b0, e0, B0, hB⟩
 rw [e0]
 have G0 : w.heap.size ≤ b0 := by omega
 clear e0
 have ⟨L0, C0, F0⟩ := B0
 go_wp2_with fail
 refine (super_any _ _ _ _ _ _ _ ns es _ (HN.out.later hB) (HE.out.later hB) HWN.out HWE.out).mono ?_
 rintro e w1 ⟨rfl, hb1⟩
 have hk1 : Kept [] W w1 := (Kept.refl _ _).call hb1
 have hB1 := hk1.below hB hB.size (by simp)
 have ⟨L1, C1, F1⟩ := hk1.blk (by simp) B0
 clear C0 F0
 obtain ⟨se, hse⟩ : ∃ x, Sp.superErr ns es mn = x := ⟨_, rfl⟩
 rw [hse]
 have HSE := Lib.hid hse
 clear hse
 by_cases h0 : se = 0
 case neg =>
   have h0' : (se != 0) = true := by simpa using h0
   have hE : Hid (Sp.ideErr ns es mn F ls sd = se) := by show _ = _; unfold Sp.ideErr; rw [HSE.out, if_pos h0]
   clear h0
   go_wp2_with fail
   go_ret
   exact ⟨ret_int hE.out.symm, hB1⟩
 subst h0
 by_cases f1 : F < 1
 · have z : decide (F < 1) = true := by simpa using f1
   have hE : Hid (Sp.ideErr ns es mn F ls sd = 4) := by show _ = _; unfold Sp.ideErr; rw [HSE.out, if_neg (by simp), if_pos (by omega)]
   go_wp2_with fail
   go_ret
   exact ⟨ret_int hE.out.symm, hB1⟩
 have z1 : decide (F < 1) = false := by simpa using f1
 by_cases f2 : 1024 < F
 · have z : decide (1024 < F) = true := by simpa using f2
   have hE : Hid (Sp.ideErr ns es mn F ls sd = 4) := by show _ = _; unfold Sp.ideErr; rw [HSE.out, if_neg (by simp), if_pos (by omega)]
   go_wp2_with fail
   go_ret
   exact ⟨ret_int hE.out.symm, hB1⟩
 have z2 : decide (1024 < F) = false := by simpa using f2
 have HFF : Hid (¬ (F < 1 ∨ 1024 < F)) := by show ¬ _; omega
 by_cases f3 : n3 = n2
 case neg =>
   have y1 : ((n3 : Int) != (n2 : Int)) = true := by simp; omega
   have y2 : (n3 != n2) = true := by simp; omega
   have hE : Hid (Sp.ideErr ns es mn F ls sd = 20) := by show _ = _; unfold Sp.ideErr; rw [HSE.out, if_neg (by simp), if_neg HFF.out, if_pos (by rw [HL3.out, HL2.out]; exact f3)]
   go_wp2_with fail
   go_ret
   exact ⟨ret_int hE.out.symm, hB1⟩
 have y1 : ((n3 : Int) != (n2 : Int)) = false := by simp; omega
 have y2 : (n3 != n2) = false := by simp; omega
 have HLL : Hid (ls.length = es.length) := by show _ = _; rw [HL3.out, HL2.out]; exact f3
 have hn2 : n2 ≤ 32768 := by
   have h1 := HSE.out
   unfold Sp.superErr at h1
   rw [HL1.out, HL2.out] at h1
   split at h1
   · cases h1
   · omega
 subst f3
 clear f1 f2
 go_wp2_with fail
 go_loopw [36] (fun i wr => ∃ j : Nat, j ≤ n3 ∧ i = .int .i64 j ∧ Kept [] W wr ∧ Hid (∀ x, x < j → Sp.pairsErr F (Sp.gl ls x) = 0)) (fun i _ => n3 - (intOf i).toNat)
 case atStart => exact ⟨0, Nat.zero_le _, rfl, hk1, Lib.hid (fun j hj => absurd hj (by omega))⟩
 case round =>
   obtain ⟨j, hj, rfl, hkr, hno⟩ := hrel
   have BR := hkr.blk (by simp) B0
   have ⟨LR, CR, FR⟩ := BR
   have hBr := hkr.below hB hB.size (by simp)
   clear C1 F1
   by_cases hlt : j < n3
   · obtain ⟨b, o, rfl, hl, hc⟩ := (HF.out.later hBr).2 (by omega)
     obtain ⟨Ai, ni, ci, h1, hx⟩ := hc j hlt
     have HX := Lib.hid hx
     clear hc hx
     have hbad : Hid (∀ e, Sp.pairsErr F (Sp.gl ls j) = e → e ≠ 0 → Sp.ideErr ns es mn F ls sd = e) := fun e h1 h2 => Sp.ide_flow HSE.out HFF.out HLL.out hno.out (by rw [HL3.out]; exact hlt) h1 h2
     have hstep : Hid (Sp.pairsErr F (Sp.gl ls j) = 0 → ∀ x, x < j + 1 → Sp.pairsErr F (Sp.gl ls x) = 0) := fun h0 x hx => by
       rcases Nat.lt_or_ge x j with h9 | h9
       · exact hno.out x h9
       · obtain rfl : x = j := by omega
         exact h0
     obtain ⟨pe, hpe⟩ : ∃ x, Sp.pairsErr F (Sp.gl ls j) = x := ⟨_, rfl⟩
     have HPE := Lib.hid hpe
     clear hpe
     go_wp2_with fail
     refine (cpairs_any _ _ _ F (Sp.gl ls j) _ HX.out (HGV.out.later hBr)).mono ?_
     rw [HPE.out]
     rintro e w5 ⟨rfl, hb5⟩
     clear CR FR h1
     have hk5 : Kept [] W w5 := hkr.call hb5
     have hB5 := hk5.below hB hB.size (by simp)
     by_cases hx0 : pe = 0
     · have hx0' : (pe != 0) = false := by simpa using hx0
       have hfin := Lib.hid (hstep.out (HPE.out.trans hx0))
       clear hx0
       go_wp2_with fail
       exact ⟨⟨j + 1, by omega, by go_num, hk5, hfin⟩, by simp [intOf]; omega⟩
     · have hx0' : (pe != 0) = true := by simpa using hx0
       have hE := Lib.hid (hbad.out pe HPE.out hx0)
       clear hx0
       go_wp2_with fail
       go_ret
       exact ⟨ret_int hE.out.symm, hB5⟩
   · obtain rfl : j = n3 := by omega
     have hall : Hid (∀ x, x < ls.length → Sp.pairsErr F (Sp.gl ls x) = 0) := fun x hx => hno.out x (by rw [HL3.out] at hx; exact hx)
     clear hno hlt
     go_wp2_with fail
     go_loopw [51] (fun i wz => ∃ q : Nat, q ≤ n4 ∧ i = .int .i64 q ∧ Kept [] W wz ∧ Hid (∀ x, x < q → Sp.seedErr n1 F sd x = 0)) (fun i _ => n4 - (intOf i).toNat)
     case atStart => exact ⟨0, Nat.zero_le _, rfl, hkr, Lib.hid (fun j hj => absurd hj (by omega))⟩
     case round =>
       rename World => wz
       obtain ⟨q, hq, rfl, hkz, hno⟩ := hrel
       have BZ := hkz.blk (by simp) B0
       have ⟨LZ, CZ, FZ⟩ := BZ
       have hBz := hkz.below hB hB.size (by simp)
       clear CR FR
       by_cases hlt : q < n4
       case neg =>
         obtain rfl : q = n4 := by omega
         have hE := Lib.hid (Sp.ide_ok (sd := sd) HSE.out HFF.out HLL.out hall.out (fun x hx => by rw [HL1.out]; exact hno.out x (by rw [HL4.out] at hx; exact hx)))
         go_wp2_with fail
         go_ret
         exact ⟨ret_int hE.out.symm, hBz⟩
       obtain ⟨b, o, rfl, hl, hc⟩ := (HS.out.later hBz).2 (by omega)
       obtain ⟨h1, h2, h3, h5⟩ := hc q hlt
       have HC := Lib.hid hc
       have LB := Lib.hid hl
       clear hc
       obtain ⟨sn, sf, sk, sv, en⟩ : ∃ sn sf sk sv, Sp.gs sd q = ⟨sn, sf, sk, sv⟩ := ⟨_, _, _, _, rfl⟩
       rw [en] at h1 h2 h3 h5
       have HEe := Lib.hid en
       clear en
       go_upto_region 18 with fail
       refine wp_named (fun V => ∃ g, wz.heap.size = g ∧ Blk V g [.int .i64 sn, .int .i64 sf, .int .i64 sk, .int .i64 sv] ∧ Kept [] wz V) ⟨_, rfl, Blk.new _ _ _ _ rfl, (Kept.refl _ _).alloc _⟩ ?_
       rintro V ⟨g, eg, Bg, hkV⟩
       rw [eg]
       have hkw : Kept [] W V := keptTrans hkz hkV
       have ⟨LG, CG, FG⟩ := Bg
       have BV := hkw.blk (by simp) B0
       have ⟨LV, CV, FV⟩ := BV
       have hBV := hkw.below hB hB.size (by simp)
       clear CZ FZ h1 h2 h3 h5 eg
       have hbad : Hid (∀ e, Sp.seedErr n1 F sd q = e → e ≠ 0 → Sp.ideErr ns es mn F ls sd = e) := fun e h1 h2 => Sp.ide_seed HSE.out HFF.out HLL.out hall.out (j := q) (fun x hx => by rw [HL1.out]; exact hno.out x hx) (by rw [HL4.out]; exact hlt) (by rw [HL1.out]; exact h1) h2
       have hstep : Hid (Sp.seedErr n1 F sd q = 0 → ∀ x, x < q + 1 → Sp.seedErr n1 F sd x = 0) := fun h0 x hx => by
         rcases Nat.lt_or_ge x q with h9 | h9
         · exact hno.out x h9
         · obtain rfl : x = q := by omega
           exact h0
       obtain ⟨ve, hve⟩ : ∃ x, Sp.verr sk sv = x := ⟨_, rfl⟩
       have HVE := Lib.hid hve
       have HEr : Hid (Sp.seedErr n1 F sd q = if sn < 0 ∨ (n1 : Int) ≤ sn ∨ sf < 1 ∨ F ≤ sf then 4 else if ve ≠ 0 then ve else if 0 < q ∧ Sp.lessS (Sp.gs sd (q - 1)) ⟨sn, sf, sk, sv⟩ = false then 13 else 0) := by
         show _ = _
         unfold Sp.seedErr
         rw [HEe.out]
         dsimp only
         rw [hve]
       clear hve
       by_cases r0 : sn < 0
       · have z : decide (sn < 0) = true := by simpa using r0
         have hE := Lib.hid (hbad.out 4 (by rw [HEr.out, if_pos (by omega)]) (by omega))
         go_wp2_with fail
         go_ret
         exact ⟨ret_int hE.out.symm, hBV⟩
       have r0' : decide (sn < 0) = false := by simpa using r0
       by_cases r1 : (n1 : Int) ≤ sn
       · have z : decide ((n1 : Int) ≤ sn) = true := by simpa using r1
         have hE := Lib.hid (hbad.out 4 (by rw [HEr.out, if_pos (by omega)]) (by omega))
         go_wp2_with fail
         go_ret
         exact ⟨ret_int hE.out.symm, hBV⟩
       have r1' : decide ((n1 : Int) ≤ sn) = false := by simpa using r1
       by_cases r2 : sf < 1
       · have z : decide (sf < 1) = true := by simpa using r2
         have hE := Lib.hid (hbad.out 4 (by rw [HEr.out, if_pos (by omega)]) (by omega))
         go_wp2_with fail
         go_ret
         exact ⟨ret_int hE.out.symm, hBV⟩
       have r2' : decide (sf < 1) = false := by simpa using r2
       by_cases r3 : F ≤ sf
       · have z : decide (F ≤ sf) = true := by simpa using r3
         have hE := Lib.hid (hbad.out 4 (by rw [HEr.out, if_pos (by omega)]) (by omega))
         go_wp2_with fail
         go_ret
         exact ⟨ret_int hE.out.symm, hBV⟩
       have r3' : decide (F ≤ sf) = false := by simpa using r3
       have HEy : Hid (Sp.seedErr n1 F sd q = if ve ≠ 0 then ve else if 0 < q ∧ Sp.lessS (Sp.gs sd (q - 1)) ⟨sn, sf, sk, sv⟩ = false then 13 else 0) := by
         show _ = _
         rw [HEr.out, if_neg (by omega)]
       clear HEr r0 r1 r2 r3
       go_wp2_with fail
       refine (vcheckv_any sk sv _).mono ?_
       rw [HVE.out]
       rintro e w6 ⟨rfl, hb6⟩
       have hkV6 : Kept [] V w6 := (Kept.refl _ _).call hb6
       have hk6 : Kept [] W w6 := keptTrans hkw hkV6
       have hB6 := hk6.below hB hB.size (by simp)
       have ⟨LG6, CG6, FG6⟩ := hkV6.blk (by simp) Bg
       have BG6 := hkV6.blk (by simp) Bg
       have ⟨LV6, CV6, FV6⟩ := hk6.blk (by simp) B0
       clear CG FG CV FV
       by_cases v0 : ve = 0
       case neg =>
         have v0' : (ve != 0) = true := by simpa using v0
         have hE := Lib.hid (hbad.out ve (by rw [HEy.out, if_pos v0]) v0)
         clear v0
         go_wp2_with fail
         go_ret
         exact ⟨ret_int hE.out.symm, hB6⟩
       subst v0
       have HEw : Hid (Sp.seedErr n1 F sd q = if 0 < q ∧ Sp.lessS (Sp.gs sd (q - 1)) ⟨sn, sf, sk, sv⟩ = false then 13 else 0) := by
         show _ = _
         rw [HEy.out, if_neg (by simp)]
       clear HEy
       by_cases hq0 : q = 0
       · have y3 : decide (0 < q) = false := by simp; omega
         have y4 : decide ((0 : Int) < (q : Int)) = false := by simp; omega
         have hfin := Lib.hid (hstep.out (by rw [HEw.out, if_neg (by omega)]))
         clear hq0
         go_wp2_with fail
         exact ⟨⟨q + 1, by omega, by go_num, hk6, hfin⟩, by simp [intOf]; omega⟩
       have y3 : decide (0 < q) = true := by simp; omega
       have y4 : decide ((0 : Int) < (q : Int)) = true := by simp; omega
       have w3 : IntKind.i64.wrap ((q : Int) - 1) = (q : Int) - 1 := IntWalk.i64_in _ (by omega)
       have w4 : (0 : Int) ≤ (q : Int) - 1 := by omega
       have w5 : ((q : Int) - 1).toNat = q - 1 := by omega
       have w7 : (q : Int) - 1 < (n4 : Int) := by omega
       have w8 : 0 < q := by omega
       have w9 : 1 ≤ q := by omega
       have w10 : (1 : Int) ≤ (q : Int) := by omega
       have w11 : q ≤ n4 := by omega
       have w12 : q < n4 + 1 := by omega
       have w13 : (q : Int) < (n4 : Int) + 1 := by omega
       have w14 : (q : Int) ≤ (n4 : Int) := by omega
       obtain ⟨p1, p2, p3, p4⟩ := HC.out (q - 1) (by omega)
       obtain ⟨pn, pf, pk, pv, ep⟩ : ∃ pn pf pk pv, Sp.gs sd (q - 1) = ⟨pn, pf, pk, pv⟩ := ⟨_, _, _, _, rfl⟩
       rw [ep] at p1 p2 p3 p4
       have hkz6 : Kept [] wz w6 := keptTrans hkV hkV6
       have q1 := (hkz6.cell b _ LB.out (by simp)).trans p1
       have q2 := (hkz6.cell b _ LB.out (by simp)).trans p2
       have q3 := (hkz6.cell b _ LB.out (by simp)).trans p3
       have q4 := (hkz6.cell b _ LB.out (by simp)).trans p4
       have hb6' : b < w6.heap.size := Nat.lt_of_lt_of_le LB.out hkz6.size
       have HEx : Hid (Sp.seedErr n1 F sd q = if Sp.lessS ⟨pn, pf, pk, pv⟩ ⟨sn, sf, sk, sv⟩ = false then 13 else 0) := by
         show _ = _
         rw [HEw.out, ep]
         simp [w8]
       clear p1 p2 p3 p4 ep hq0 HEw
       go_upto_region 25 with fail
       refine wp_named (fun U => ∃ h, w6.heap.size = h ∧ Blk U h [.int .i64 pn, .int .i64 pf, .int .i64 pk, .int .i64 pv] ∧ Kept [] w6 U) ⟨_, rfl, Blk.new _ _ _ _ rfl, (Kept.refl _ _).alloc _⟩ ?_
       rintro U ⟨h, eh, Bh, hkU⟩
       rw [eh]
       have ⟨LH, CH, FH⟩ := Bh
       have ⟨LU, CU, FU⟩ := hkU.blk (by simp) BG6
       have hkWU : Kept [] W U := keptTrans hk6 hkU
       clear CG6 FG6 CV6 FV6 q1 q2 q3 q4 eh
       go_cut [106] (fun s wx => s = .bool (!Sp.lessS ⟨pn, pf, pk, pv⟩ ⟨sn, sf, sk, sv⟩) ∧ Kept [] U wx)
       case first =>
         go_region_held3 (fun w' => SX0 U w') (exact kp0)
           (first | (go_at_call 23; refine (compare_any _ _ _).mono ?_; rintro e w1 ⟨rfl, rfl⟩) | (go_at_call 22; refine (or_any _ _ _ [Sp.cmpI pn sn, Sp.cmpI pf sf] _ (by first | exact two_ints _ _ _ _ _ (by first | rfl | simp) | exact Ints.drew (two_ints _ _ _ _ _ (by first | rfl | simp))) (by omega) (by omega)).mono ?_; rintro e w2 ⟨rfl, rfl⟩))
         all_goals
           go_wp2_with fail
           go_meet
           refine ⟨congrArg Value.bool (Sp.ordS_ge ⟨pn, pf, pk, pv⟩ ⟨sn, sf, sk, sv⟩), ?_⟩
           (exact kpt0)
       case rest =>
         obtain ⟨rfl, hkc⟩ := hcut
         have hkwc : Kept [] W wc := keptTrans hkWU hkc
         by_cases hles : Sp.lessS ⟨pn, pf, pk, pv⟩ ⟨sn, sf, sk, sv⟩ = true
         · rw [hles]
           have hfin := Lib.hid (hstep.out (by rw [HEx.out, hles, if_neg (by simp)]))
           clear hles
           go_wp2_with fail
           exact ⟨⟨q + 1, by omega, by go_num, hkwc, hfin⟩, by simp [intOf]; omega⟩
         · rw [Bool.not_eq_true] at hles
           rw [hles]
           have hE := Lib.hid (hbad.out 13 (by rw [HEx.out, hles, if_pos rfl]) (by omega))
           clear hles
           go_wp2_with fail
           go_ret
           exact ⟨ret_int hE.out.symm, hkwc.below hB hB.size (by simp)⟩
end Go.Proofs.YtincpmdldpakkaaDoor
namespace Go.Proofs.YtincpmdldpakkaaDoor
open Go.RowKit Go.Df
attribute [local go_sem ↓] Go.wp_at_zero Go.wp_at_succ
end Go.Proofs.YtincpmdldpakkaaDoor
namespace Go.Proofs.YtincpmdldpakkaaDoor
open Go.RowKit Go.Df Go.Df.Iv Go.Df.Sp
def GetA (p : Vb) (N : Nat) (pe : Int) (w : World) (e : Ending) (w' : World) : Prop :=
 (pe = 0 ∧ GetU p N p.F.toNat w e w') ∨ (pe ≠ 0 ∧ e = .returned (.tuple #[.agg #[.slice none 0 0], .int .i64 pe]) ∧ Below w.heap.size w w')
structure Lies (p : Vb) (A1 A2 A3 A4 : Option Addr) (n1 n2 n3 n4 : Nat) (w : World) : Prop where
 nd : Nds w A1 n1 p.ns
 ed : Eds w A2 n2 p.es
 fl : Fls w A3 n3 p.fl
 sd : Vss w A4 n4 p.sd
 fc : ∀ b o i A n c, A3 = some ⟨b, o, none⟩ → i < n3 → w.cell? ⟨b, o + i, none⟩ = some (.slice A n c) → n ≤ c
 wn : ∀ j, j < n1 → (Lit.int .i64 (gn p.ns j).f).wf = true
 we : ∀ j, j < n2 → (Lit.int .i64 (ge p.es j).a).wf = true ∧ (Lit.int .i64 (ge p.es j).b).wf = true
 fit : VFit p
 n4 : n4 ≤ 1000000
theorem psolve_any {p : Vb} (A1 A2 A3 A4 : Option Addr) (n1 c1 n2 c2 n3 c3 n4 c4 : Nat) (w : World) (h : Lies p A1 A2 A3 A4 n1 n2 n3 n4 w) (hgv : Gv w) (hmu : vErr p = 0 → mu0 p ≤ 1000000) :
   Calls Tryd.prog 11 #[.agg #[.slice A1 n1 c1, .slice A2 n2 c2, .int .i64 p.mn, .int .i64 p.F, .slice A3 n3 c3, .slice A4 n4 c4]] w (GetA p n1 (vErr p) w) := by
 have h4 := h.n4
 have hck : ∀ w1, Below w.heap.size w w1 → Calls Tryd.prog 7 #[.agg #[.slice A1 n1 c1, .slice A2 n2 c2, .int .i64 p.mn, .int .i64 p.F, .slice A3 n3 c3, .slice A4 n4 c4]] w1 fun e w' => e = .returned (.int .i64 (vErr p)) ∧ Below w1.heap.size w1 w' := fun w1 hb =>
   ideck_any A1 A2 A3 A4 n1 c1 n2 c2 n3 c3 n4 c4 p.mn p.F p.ns p.es p.fl p.sd w1 (h.nd.later hb) (h.ed.later hb) (h.fl.later hb) (h.sd.later hb) (by omega) h.wn h.we (hgv.later hb)
 by_cases h0 : vErr p = 0
 · have ho := vok_of h0
   have hm := If.main_in (If.sup_parts ho.sup).2.2.1
   obtain ⟨mN, hmN⟩ := Int.eq_ofNat_of_zero_le (show 0 ≤ p.mn by omega)
   obtain ⟨f, hf⟩ := Int.eq_ofNat_of_zero_le (show 0 ≤ p.F by have := ho.f1; omega)
   have hr := psolve_ok (K0 := ⟨A1, A2, A3, A4, n1, c1, n2, c2, n3, c3, n4, c4, 0, 0, 0, 0, 0, 0, 0, 0, fun _ => 0, fun _ => none, fun _ => 0, fun _ _ => .slice none 0 0⟩) w mN f ⟨h.nd, h.ed, h.fl, h.sd, h.fc⟩ hgv ho h.fit hmN hf h.n4 (hmu h0) (fun w1 hb => by
     have h9 := hck w1 hb
     rw [h0, hmN, hf] at h9
     exact h9)
   rw [← hmN, ← hf] at hr
   refine hr.mono (fun e w' h9 => .inl ⟨h0, ?_⟩)
   rw [hf, Int.toNat_natCast]
   exact h9
 · exact (psolve_err A1 A2 A3 A4 n1 c1 n2 c2 n3 c3 n4 c4 p.mn p.F (vErr p) w h0 hck).mono (fun e w' h9 => .inr ⟨h0, h9⟩)
end Go.Proofs.YtincpmdldpakkaaDoor
namespace Go.Df
open Go.RowKit
namespace If
open Sp
structure Wf (p : Pb) (s : St) : Prop where
 rng : ∀ n a d, s.h n a d = true → n < p.ns.length ∧ a < p.F.toNat ∧ d < p.F.toNat
 ph : ∀ n x, x ∈ s.pd n → s.h n x.1 x.2 = true
 nd : ∀ n, (s.pd n).Nodup
 qn : s.q.Nodup
 qp : ∀ n, n ∈ s.q ↔ s.pd n ≠ []
 ee : ∀ k b a, s.e k b a = true → a < p.F.toNat ∧ k < p.es.length ∧ (ge p.es k).k = 2
theorem Wf.add {p : Pb} {s : St} (h : Wf p s) {n a d : Nat} (hn : n < p.ns.length) (ha : a < p.F.toNat) (hd : d < p.F.toNat) : Wf p (s.add n a d) := by
 unfold St.add
 split
 · exact h
 · rename_i h0
   refine ⟨fun n' a' d' h' => ?_, fun n' x hx => ?_, fun n' => ?_, ?_, fun n' => ?_, h.ee⟩
   · simp at h'
     rcases h' with h' | ⟨rfl, rfl, rfl⟩
     · exact h.rng _ _ _ h'
     · exact ⟨hn, ha, hd⟩
   · dsimp only at hx
     split at hx
     · rename_i e
       subst e
       simp at hx
       rcases hx with hx | rfl
       · simp [h.ph _ _ hx]
       · simp
     · simp [h.ph _ _ hx]
   · dsimp only
     split
     · rename_i e
       subst e
       rw [List.nodup_append]
       refine ⟨h.nd _, by simp, ?_⟩
       intro x hx y hy
       simp at hy
       subst hy
       rintro rfl
       exact h0 (h.ph _ _ hx)
     · exact h.nd _
   · dsimp only
     split
     · rename_i e
       rw [List.nodup_append]
       refine ⟨h.qn, by simp, ?_⟩
       intro x hx y hy
       simp at hy
       subst hy
       rintro rfl
       exact (h.qp _).1 hx e
     · exact h.qn
   · dsimp only
     by_cases e : n' = n
     · subst e
       split
       · simp
       · rename_i e2
         simp [(h.qp n').2 e2]
     · rw [if_neg e]
       split
       · rw [List.mem_append, h.qp]
         simp [e]
       · exact h.qp _
theorem Wf.ent {p : Pb} {s : St} (h : Wf p s) {k b a : Nat} (ha : a < p.F.toNat) (hk : k < p.es.length) (hk2 : (ge p.es k).k = 2) : Wf p (s.ent k b a) := by
 refine ⟨h.rng, h.ph, h.nd, h.qn, h.qp, fun k' b' a' h' => ?_⟩
 simp [St.ent] at h'
 rcases h' with h' | ⟨rfl, rfl, rfl⟩
 · exact h.ee _ _ _ h'
 · exact ⟨ha, hk, hk2⟩
theorem spread_wf {p : Pb} (ho : Ok p) {k a d : Nat} (hk : k < p.es.length) (ha : a < p.F.toNat) {s : St} (h : Wf p s) : Wf p (spread p k a d s) := by
 refine fold_keep (Q := Wf p) _ s (fun q hq t ht => ?_) h
 have h1 := ho.pair (by rw [ho.len]; exact hk) (mem_froms.1 hq).1
 have h2 := ho.edge hk
 exact ht.add (by omega) ha (by omega)
theorem enter1_wf {p : Pb} (ho : Ok p) {k a b : Nat} (hk : k < p.es.length) (hk2 : (ge p.es k).k = 2) (ha : a < p.F.toNat) (hb : b < p.F.toNat) {s : St} (h : Wf p s) : Wf p (enter1 p k a b s) := by
 have h2 := ho.edge hk
 have h4 : Wf p (s.add (ge p.es k).b.toNat b b) := h.add (by omega) hb hb
 unfold enter1
 split
 · exact h4
 · refine fold_keep (Q := Wf p) _ _ (fun r hr t ht => ?_) (h4.ent ha hk hk2)
   unfold enterR
   split
   · exact fold_keep (Q := Wf p) _ t (fun f _ u hu => spread_wf ho (retL_mem.1 hr).1 ha hu) ht
   · exact ht
theorem step_wf {p : Pb} (ho : Ok p) {n a d : Nat} (hn : n < p.ns.length) (ha : a < p.F.toNat) {s : St} (h : Wf p s) : Wf p (step p n a d s) := by
 have f1 := ho.f1
 have h1 : Wf p (stepA p n a d s) := by
   unfold stepA
   split
   · refine fold_keep (Q := Wf p) _ s (fun x hx t ht => ?_) h
     have := ho.seed (seedL_mem.1 hx).1
     exact ht.add hn (by omega) (by omega)
   · exact h
 have h2 : Wf p ((outL p n).foldl (stepE p a d) (stepA p n a d s)) := by
   refine fold_keep (Q := Wf p) _ _ (fun k hk t ht => ?_) h1
   unfold stepE
   split
   · exact spread_wf ho (outL_mem.1 hk).1 ha ht
   · split
     · rename_i hk2
       refine fold_keep (Q := Wf p) _ t (fun q hq u hu => ?_) ht
       have h1 := ho.pair (by rw [ho.len]; exact (outL_mem.1 hk).1) (mem_froms.1 hq).1
       exact enter1_wf ho (outL_mem.1 hk).1 hk2 ha (by omega) hu
     · exact ht
 unfold step
 split
 · refine fold_keep (Q := Wf p) _ _ (fun k hk t ht => ?_) h2
   refine fold_keep (Q := Wf p) _ t (fun r hr u hu => ?_) ht
   unfold leaveR
   split
   · exact fold_keep (Q := Wf p) _ u (fun a' ha' v hv => spread_wf ho (retL_mem.1 hr).1 (elems_mem.1 ha').1 hv) hu
   · exact hu
 · exact h2
def trip (N F : Nat) : List (Nat × Nat × Nat) := (List.range N).flatMap fun n => (List.range F).flatMap fun a => (List.range F).map fun d => (n, a, d)
theorem mem_trip {N F n a d : Nat} : (n, a, d) ∈ trip N F ↔ n < N ∧ a < F ∧ d < F := by
 simp only [trip, List.mem_flatMap, List.mem_map, List.mem_range, Prod.mk.injEq]
 constructor
 · rintro ⟨_, h1, _, h2, _, h3, rfl, rfl, rfl⟩; exact ⟨h1, h2, h3⟩
 · rintro ⟨h1, h2, h3⟩; exact ⟨n, h1, a, h2, d, h3, rfl, rfl, rfl⟩
theorem countP_lt {α : Type} {P Q : α → Bool} (hPQ : ∀ x, P x = true → Q x = true) {y : α} (hQ : Q y = true) (hP : P y = false) : ∀ (l : List α), y ∈ l → l.countP P < l.countP Q
 | x :: l, hy => by
   have hm : l.countP P ≤ l.countP Q := List.countP_mono_left fun z _ h => hPQ z h
   rw [List.countP_cons, List.countP_cons]
   rcases List.mem_cons.1 hy with rfl | hy
   · rw [hQ, hP]; simp; omega
   · have := countP_lt hPQ hQ hP l hy
     by_cases h1 : P x = true
     · rw [h1, hPQ x h1]; simp; omega
     · simp at h1
       rw [h1]
       simp
       omega
def unh (p : Pb) (s : St) : Nat := (trip p.ns.length p.F.toNat).countP fun x => !s.h x.1 x.2.1 x.2.2
def mea (p : Pb) (s : St) : Nat := 2 * unh p s + s.q.length
def popS (s : St) (n : Nat) (r : List Nat) : St := ⟨s.h, s.e, fun n' => if n' = n then [] else s.pd n', r⟩
def batch (p : Pb) (n : Nat) (l : List (Nat × Nat)) (s : St) : St := l.foldl (fun s x => step p n x.1 x.2 s) s
def init (p : Pb) : St := (St.add ⟨fun _ _ _ => false, fun _ _ _ => false, fun _ => [], []⟩ p.mn.toNat 0 0)
structure Inv (p : Pb) (n : Nat) (rest : List (Nat × Nat)) (s : St) : Prop where
 wf : Wf p s
 snd : Snd p s
 cp : Cp p s (Dn s n rest)
 main : s.h p.mn.toNat 0 0 = true
 rs : ∀ x ∈ rest, s.h n x.1 x.2 = true
theorem Wf.pop {p : Pb} {s : St} (h : Wf p s) {n : Nat} {r : List Nat} (hq : s.q = n :: r) : Wf p (popS s n r) := by
 have hn := h.qn
 rw [hq, List.nodup_cons] at hn
 refine ⟨h.rng, fun n' x hx => ?_, fun n' => ?_, hn.2, fun n' => ?_, h.ee⟩
 · dsimp only [popS] at hx
   split at hx
   · cases hx
   · exact h.ph _ _ hx
 · dsimp only [popS]
   split
   · exact List.nodup_nil
   · exact h.nd _
 · dsimp only [popS]
   have h1 := h.qp n'
   rw [hq, List.mem_cons] at h1
   by_cases e : n' = n
   · subst e
     simp [hn.1]
   · rw [if_neg e, ← h1]
     simp [e]
theorem Inv.pop {p : Pb} {s : St} {n0 : Nat} (h : Inv p n0 [] s) {n : Nat} {r : List Nat} (hq : s.q = n :: r) : Inv p n (s.pd n) (popS s n r) := by
 refine ⟨h.wf.pop hq, ⟨h.snd.h, h.snd.e⟩, ?_, h.main, fun x hx => h.wf.ph _ _ hx⟩
 have hD : ∀ x y z, Dn (popS s n r) n (s.pd n) x y z → Dn s n0 [] x y z := fun x y z hd => by
   refine ⟨hd.1, fun hm => ?_, fun hm => by cases hm.2⟩
   by_cases e : x = n
   · subst e; exact hd.2.2 ⟨rfl, hm⟩
   · exact hd.2.1 (by dsimp only [popS]; rw [if_neg e]; exact hm)
 exact ⟨fun m hm => h.cp.seed m (hD _ _ _ hm), fun m b c hm => h.cp.flow m b c (hD _ _ _ hm), fun m b c hm => h.cp.call m b c (hD _ _ _ hm), fun k b a hk r' r1 r2 r3 r4 d hd => h.cp.ret k b a hk r' r1 r2 r3 r4 d (hD _ _ _ hd)⟩
theorem Inv.step {p : Pb} (ho : Ok p) {s : St} {n a d : Nat} {rest : List (Nat × Nat)} (h : Inv p n ((a, d) :: rest) s) : Inv p n rest (step p n a d s) := by
 have hh := h.rs (a, d) (by simp)
 have hr := h.wf.rng _ _ _ hh
 have hp := h.snd.h _ _ _ hh
 have hl := step_le p n a d s
 have f1 := ho.f1
 refine ⟨step_wf ho hr.1 hr.2.1 h.wf, step_snd ho hp h.snd, ?_, hl.h _ _ _ h.main, fun x hx => hl.h _ _ _ (h.rs x (by simp [hx]))⟩
 refine step_cp ho hr.1 (by omega) (by omega) (D := Dn s n ((a, d) :: rest)) (fun n a d hd => ⟨hd.1, (h.wf.rng _ _ _ hd.1).2.2⟩) h.wf.ee h.cp _ ?_
 intro x y z hd
 have h1 : s.h x y z = true := by
   rcases hl.new _ _ _ hd.1 with h1 | h1
   · exact h1
   · exact absurd h1 hd.2.1
 by_cases e : x = n ∧ y = a ∧ z = d
 · exact .inr e
 · refine .inl ⟨h1, fun hm => hd.2.1 (hl.pd _ _ hm), fun hm => ?_⟩
   rcases List.mem_cons.1 hm.2 with h2 | h2
   · injection h2 with h3 h4
     exact e ⟨hm.1, h3, h4⟩
   · exact hd.2.2 ⟨hm.1, h2⟩
theorem Inv.rest {p : Pb} {s : St} {n : Nat} (h : Inv p n [] s) (m : Nat) : Inv p m [] s := by
 have hD : ∀ x y z, Dn s m [] x y z → Dn s n [] x y z := fun x y z hd => ⟨hd.1, hd.2.1, fun hm => by cases hm.2⟩
 exact ⟨h.wf, h.snd, ⟨fun m hm => h.cp.seed m (hD _ _ _ hm), fun m b c hm => h.cp.flow m b c (hD _ _ _ hm), fun m b c hm => h.cp.call m b c (hD _ _ _ hm), fun k b a hk r' r1 r2 r3 r4 d hd => h.cp.ret k b a hk r' r1 r2 r3 r4 d (hD _ _ _ hd)⟩, h.main, fun x hx => by cases hx⟩
theorem mea_pop {p : Pb} {s : St} {n : Nat} {r : List Nat} (hq : s.q = n :: r) : mea p (popS s n r) + 1 = mea p s := by
 unfold mea
 rw [hq]
 show 2 * unh p s + r.length + 1 = _
 rw [List.length_cons]
 omega
theorem init_inv {p : Pb} (ho : Ok p) : Inv p 0 [] (init p) := by
 have hm := main_in (sup_parts ho.sup).2.2.1
 have f1 := ho.f1
 have h0 : Wf p ⟨fun _ _ _ => false, fun _ _ _ => false, fun _ => [], []⟩ := ⟨by simp, by simp, by simp, by simp, by simp, by simp⟩
 have s0 : Snd p ⟨fun _ _ _ => false, fun _ _ _ => false, fun _ => [], []⟩ := ⟨by simp, by simp⟩
 have hd : ∀ x y z, ¬ Dn (init p) 0 [] x y z := by
   rintro x y z ⟨h1, h2, -⟩
   unfold init St.add at h1 h2
   simp at h1 h2
   obtain ⟨rfl, rfl, rfl⟩ := h1
   simp at h2
 have he : ∀ k b a, (init p).e k b a = false := by
   intro k b a
   unfold init
   rw [St.add_e]
 refine ⟨h0.add (by omega) (by omega) (by omega), s0.add .main, ⟨fun m hm => absurd hm (hd _ _ _), fun m b c hm => absurd hm (hd _ _ _), fun m b c hm => absurd hm (hd _ _ _), fun k b a hk => by rw [he] at hk; cases hk⟩, St.add_has _ _ _ _, fun x hx => by cases hx⟩
theorem Inv.done {p : Pb} (ho : Ok p) {s : St} {n : Nat} (h : Inv p n [] s) (hq : s.q = []) (a m d : Nat) : s.h m a d = true ↔ PE p a m d := by
 have hpd : ∀ n, s.pd n = [] := fun n => Decidable.byContradiction fun hh => by
   have := (h.wf.qp n).2 hh
   rw [hq] at this
   cases this
 have hD : ∀ x y z, s.h x y z = true → Dn s n [] x y z := fun x y z hh => ⟨hh, by rw [hpd]; simp, fun hm => by cases hm.2⟩
 refine ⟨h.snd.h _ _ _, ?_⟩
 refine Clo.all (T := fun a n d => s.h n a d = true) ⟨h.main, ?_, ?_, ?_, ?_⟩
 · intro x hx ht
   have := ho.seed hx
   exact h.cp.seed _ (hD _ _ _ ht) x hx (by omega)
 · intro k hk hk2 q hq' b ht
   have h1 := ho.pair (by rw [ho.len]; exact hk) hq'
   have h2 := ho.edge hk
   exact h.cp.flow _ _ _ (hD _ _ _ ht) k hk hk2 (by omega) q hq' (by omega)
 · intro k hk hk2 q hq' b ht
   have h1 := ho.pair (by rw [ho.len]; exact hk) hq'
   have h2 := ho.edge hk
   exact (h.cp.call _ _ _ (hD _ _ _ ht) k hk hk2 (by omega) q hq' (by omega)).1
 · intro c hc hc2 q hq' r hr hr2 t ht' e1 e2 b hb hb2
   have h1 := ho.pair (by rw [ho.len]; exact hc) hq'
   have h2 := ho.edge hc
   have h3 := ho.pair (by rw [ho.len]; exact hr) ht'
   have h4 := ho.edge hr
   have h5 := (h.cp.call _ _ _ (hD _ _ _ hb) c hc hc2 (by omega) q hq' (by omega)).2
   exact h.cp.ret _ _ _ h5 r hr hr2 e1.symm ((ho.nd.start_iff (by omega) (by omega) (ho.call hc hc2).1).2 e2) _ (hD _ _ _ hb2) t ht' (by omega)
end If
end Go.Df
