/- Texts: Sh Ed. -/
import Derived.Test.YtincpmdldpakkaaGreatDoorJb04
import Derived.Test.YtincpmdldpakkaaGreatDoorJb03
namespace Go.Df.Sp
def edgeErr (ns : List Nd) (es : List Ed) (j : Nat) : Int :=
 if (ge es j).a < 0 ∨ (ns.length : Int) ≤ (ge es j).a ∨ (ge es j).b < 0 ∨ (ns.length : Int) ≤ (ge es j).b then 4
 else if (ge es j).k < 1 ∨ 5 < (ge es j).k then 12
 else if (((ge es j).k = 1 ∨ (ge es j).k = 5) ∧ (ge es j).c ≠ -1) ∨ ((ge es j).k ≠ 1 ∧ (ge es j).k ≠ 5 ∧ ((ge es j).c < 0 ∨ (ns.length : Int) ≤ (ge es j).c)) then 4
 else if 0 < j ∧ lessE (ge es (j - 1)) (ge es j) = false then 13
 else if fitsB ns es (ge es j) = false then 20 else 0
def superErr (ns : List Nd) (es : List Ed) (m : Int) : Int :=
 if 8192 < ns.length ∨ 32768 < es.length then 3 else if nodesErr ns m ≠ 0 then nodesErr ns m else fe (edgeErr ns es) 0 es.length
theorem super_edge {ns : List Nd} {es : List Ed} {m e : Int} {j : Nat} (h1 : ns.length ≤ 8192) (h2 : es.length ≤ 32768) (hn : nodesErr ns m = 0) (h : ∀ x, x < j → edgeErr ns es x = 0) (hj : j < es.length) (he : edgeErr ns es j = e) (h0 : e ≠ 0) : superErr ns es m = e := by
 unfold superErr
 rw [if_neg (by omega), hn, if_neg (by simp)]
 exact fe_hit h hj he h0
theorem super_ok {ns : List Nd} {es : List Ed} {m : Int} (h1 : ns.length ≤ 8192) (h2 : es.length ≤ 32768) (hn : nodesErr ns m = 0) (h : ∀ x, x < es.length → edgeErr ns es x = 0) : superErr ns es m = 0 := by
 unfold superErr
 rw [if_neg (by omega), hn, if_neg (by simp)]
 exact fe_ok _ 0 (fun i _ hi => h i (by omega))
end Go.Df.Sp
namespace Go.Proofs.YtincpmdldpakkaaGreatDoor
open Go.RowKit Go.Df
attribute [local go_sem ↓] Go.wp_at_zero Go.wp_at_succ
set_option maxRecDepth 100000 in
set_option maxHeartbeats 4000000 in
theorem rsuper_any (A1 A2 : Option Addr) (n1 c1 n2 c2 : Nat) (mn : Int) (ns : List Sp.Nd) (es : List Sp.Ed) (w : World) (hn : Nds w A1 n1 ns) (he : Eds w A2 n2 es) :
   Calls Tryz.prog 28 #[.agg #[.slice A1 n1 c1, .slice A2 n2 c2, .int .i64 mn]] w fun e w' => e = .returned (.int .i64 (Sp.superErr ns es mn)) ∧ Below w.heap.size w w' := by
 have HN := Lib.hid hn
 have HL := Lib.hid hn.1
 have HE := Lib.hid he
 have HLe := Lib.hid he.1
 clear hn he
 by_cases t1 : 8192 < n1
 · have d1 : decide ((8192 : Int) < n1) = true := by simp; omega
   go_enter Tryz.func28, Tryz.ntmps28
   go_wp2_with fail
   go_ret
   exact ⟨ret_int (by unfold Sp.superErr; rw [HL.out, if_pos (by omega)]), by go_grown⟩
 have d1 : decide ((8192 : Int) < n1) = false := by simp; omega
 by_cases t2 : 32768 < n2
 · have d2 : decide ((32768 : Int) < n2) = true := by simp; omega
   go_enter Tryz.func28, Tryz.ntmps28
   go_wp2_with fail
   go_ret
   exact ⟨ret_int (by unfold Sp.superErr; rw [HLe.out, if_pos (by omega)]), by go_grown⟩
 have d2 : decide ((32768 : Int) < n2) = false := by simp; omega
 go_enter Tryz.func28, Tryz.ntmps28
 go_upto_region 1 with fail
 refine wp_named (fun W => ∃ b0, w.heap.size = b0 ∧ Blk W b0 [.slice A1 n1 c1, .slice A2 n2 c2, .int .i64 mn] ∧ Below w.heap.size w W) ⟨_, rfl, ?_, ?_⟩ ?_
 · exact kbn
 · go_grown
 rintro W ⟨b0, e0, B0, hB⟩
 rw [e0]
 have G0 : w.heap.size ≤ b0 := by omega
 clear e0
 have ⟨L0, C0, F0⟩ := B0
 have HW := Lib.hid (HN.out.later hB)
 have HWe := Lib.hid (HE.out.later hB)
 go_wp2_with fail
 refine (nodes_any _ _ _ _ _ _ _ ns _ HW.out (by omega)).mono ?_
 rintro e w1 ⟨rfl, hb1⟩
 have hk1 : Kept [] W w1 := (Kept.refl _ _).call hb1
 have B01 := hk1.blk (by simp) B0
 have ⟨L01, C01, F01⟩ := B01
 clear C0 F0
 by_cases hne : Sp.nodesErr ns mn = 0
 case neg =>
   have hne' : (Sp.nodesErr ns mn != 0) = true := by simpa using hne
   go_wp2_with fail
   go_ret
   exact ⟨ret_int (by unfold Sp.superErr; rw [HL.out, HLe.out, if_neg (by omega), if_pos hne]), hk1.below hB hB.size (by simp)⟩
 rw [hne]
 have HNe := Lib.hid hne
 clear hne
 go_wp2_with fail
 go_loopw [4] (fun i wr => ∃ j : Nat, j ≤ n2 ∧ i = .int .i64 j ∧ Kept [] W wr ∧ Hid (∀ x, x < j → Sp.edgeErr ns es x = 0)) (fun i _ => n2 - (intOf i).toNat)
 case atStart => exact ⟨0, Nat.zero_le _, rfl, hk1, Lib.hid (fun j hj => absurd hj (by omega))⟩
 case round =>
   obtain ⟨j, hj, rfl, hkr, hno⟩ := hrel
   have BR := hkr.blk (by simp) B0
   have ⟨LR, CR, FR⟩ := BR
   clear C01 F01
   by_cases hlt : j < n2
   case neg =>
     go_wp2_with fail
     go_ret
     exact ⟨ret_int (Sp.super_ok (by rw [HL.out]; omega) (by rw [HLe.out]; omega) HNe.out (fun x hx => hno.out x (by rw [HLe.out] at hx; omega))).symm, hkr.below hB hB.size (by simp)⟩
   obtain ⟨b, o, rfl, hl, hc⟩ := (HWe.out.kept hkr).2 (by omega)
   obtain ⟨h1, h2, h3, h4⟩ := hc j hlt
   have HC := Lib.hid hc
   have LB := Lib.hid hl
   clear hc
   obtain ⟨ea, eb, ek, ec, en⟩ : ∃ ea eb ek ec, ge es j = ⟨ea, eb, ek, ec⟩ := ⟨_, _, _, _, rfl⟩
   rw [en] at h1 h2 h3 h4
   have HEe := Lib.hid en
   clear en
   go_upto_region 10 with fail
   refine wp_named (fun V => ∃ g, wr.heap.size = g ∧ Blk V g [.int .i64 ea, .int .i64 eb, .int .i64 ek, .int .i64 ec] ∧ Kept [] wr V) ⟨_, rfl, Blk.new _ _ _ _ rfl, (Kept.refl _ _).alloc _⟩ ?_
   rintro V ⟨g, eg, Bg, hkV⟩
   rw [eg]
   have hkw : Kept [] W V := keptTrans hkr hkV
   have BV := hkw.blk (by simp) B0
   have ⟨LV, CV, FV⟩ := BV
   have ⟨LG, CG, FG⟩ := Bg
   have hBV := hkw.below hB hB.size (by simp)
   have HNV := Lib.hid (HN.out.later hBV)
   have HEV := Lib.hid (HE.out.later hBV)
   clear CR FR h1 h2 h3 h4 eg
   have hbad : Hid (∀ e, Sp.edgeErr ns es j = e → e ≠ 0 → Sp.superErr ns es mn = e) := fun e h1 h2 => Sp.super_edge (by rw [HL.out]; omega) (by rw [HLe.out]; omega) HNe.out hno.out (by rw [HLe.out]; exact hlt) h1 h2
   have hstep : Hid (Sp.edgeErr ns es j = 0 → ∀ x, x < j + 1 → Sp.edgeErr ns es x = 0) := fun h0 x hx => by
     rcases Nat.lt_or_ge x j with h9 | h9
     · exact hno.out x h9
     · obtain rfl : x = j := by omega
       exact h0
   have HEr : Hid (Sp.edgeErr ns es j = (if ea < 0 ∨ (n1 : Int) ≤ ea ∨ eb < 0 ∨ (n1 : Int) ≤ eb then 4
     else if ek < 1 ∨ 5 < ek then 12
     else if ((ek = 1 ∨ ek = 5) ∧ ec ≠ -1) ∨ (ek ≠ 1 ∧ ek ≠ 5 ∧ (ec < 0 ∨ (n1 : Int) ≤ ec)) then 4
     else if 0 < j ∧ Sp.lessE (ge es (j - 1)) ⟨ea, eb, ek, ec⟩ = false then 13
     else if Sp.fitsB ns es ⟨ea, eb, ek, ec⟩ = false then 20 else 0)) := by
     show Sp.edgeErr ns es j = _
     unfold Sp.edgeErr
     rw [HEe.out, HL.out]
   have hk15 : (ek == 1) = decide (ek = 1) := by rw [Bool.eq_iff_iff]; simp
   clear hk15
   by_cases r1 : ea < 0
   · have hE : Hid (Sp.superErr ns es mn = 4) := Lib.hid (hbad.out 4 (by rw [HEr.out]; rw [if_pos (by omega)]) (by omega))
     have z : decide (ea < 0) = true := by simpa using r1
     go_wp2_with fail
     all_goals
       go_ret
       exact ⟨ret_int hE.out.symm, hBV⟩
   have z1 : decide (ea < 0) = false := by simpa using r1
   by_cases r2 : (n1 : Int) ≤ ea
   · have hE : Hid (Sp.superErr ns es mn = 4) := Lib.hid (hbad.out 4 (by rw [HEr.out]; rw [if_pos (by omega)]) (by omega))
     have z : decide ((n1 : Int) ≤ ea) = true := by simpa using r2
     go_wp2_with fail
     all_goals
       go_ret
       exact ⟨ret_int hE.out.symm, hBV⟩
   have z2 : decide ((n1 : Int) ≤ ea) = false := by simpa using r2
   by_cases r3 : eb < 0
   · have hE : Hid (Sp.superErr ns es mn = 4) := Lib.hid (hbad.out 4 (by rw [HEr.out]; rw [if_pos (by omega)]) (by omega))
     have z : decide (eb < 0) = true := by simpa using r3
     go_wp2_with fail
     all_goals
       go_ret
       exact ⟨ret_int hE.out.symm, hBV⟩
   have z3 : decide (eb < 0) = false := by simpa using r3
   by_cases r4 : (n1 : Int) ≤ eb
   · have hE : Hid (Sp.superErr ns es mn = 4) := Lib.hid (hbad.out 4 (by rw [HEr.out]; rw [if_pos (by omega)]) (by omega))
     have z : decide ((n1 : Int) ≤ eb) = true := by simpa using r4
     go_wp2_with fail
     all_goals
       go_ret
       exact ⟨ret_int hE.out.symm, hBV⟩
   have z4 : decide ((n1 : Int) ≤ eb) = false := by simpa using r4
   by_cases r5 : ek < 1
   · have hE : Hid (Sp.superErr ns es mn = 12) := Lib.hid (hbad.out 12 (by rw [HEr.out]; rw [if_neg (by omega), if_pos (by omega)]) (by omega))
     have z : decide (ek < 1) = true := by simpa using r5
     go_wp2_with fail
     all_goals
       go_ret
       exact ⟨ret_int hE.out.symm, hBV⟩
   have z5 : decide (ek < 1) = false := by simpa using r5
   by_cases r6 : 5 < ek
   · have hE : Hid (Sp.superErr ns es mn = 12) := Lib.hid (hbad.out 12 (by rw [HEr.out]; rw [if_neg (by omega), if_pos (by omega)]) (by omega))
     have z : decide (5 < ek) = true := by simpa using r6
     go_wp2_with fail
     all_goals
       go_ret
       exact ⟨ret_int hE.out.symm, hBV⟩
   have z6 : decide (5 < ek) = false := by simpa using r6
   have hcall : ((ek == 1) = true ∧ ek = 1 ∧ ek ≠ 2) ∨ ((ek == 1) = false ∧ (ek == 5) = true ∧ ek = 5) ∨ ((ek == 1) = false ∧ (ek == 5) = false ∧ ek ≠ 1 ∧ ek ≠ 5) := by
     by_cases e9 : ek = 1
     · exact .inl ⟨by simpa using e9, e9, by omega⟩
     · by_cases e8 : ek = 5
       · exact .inr (.inl ⟨by simpa using e9, by simpa using e8, e8⟩)
       · exact .inr (.inr ⟨by simpa using e9, by simpa using e8, e9, e8⟩)
   rcases hcall with ⟨c1, c2, -⟩ | ⟨c1, c3, c2⟩ | ⟨c1, c3, c2, c4⟩
   · have c0 := trivial
     have C2 := Lib.hid c2
     clear c2
     by_cases r7 : ec = -1
     rotate_left
     · have hE : Hid (Sp.superErr ns es mn = 4) := Lib.hid (hbad.out 4 (by rw [HEr.out]; rw [if_neg (by omega), if_neg (by omega), if_pos (by have := C2.out; omega)]) (by omega))
       have z : (ec != -1) = true := by simpa using r7
       go_wp2_with fail
       all_goals
         go_ret
         exact ⟨ret_int hE.out.symm, hBV⟩
     have z7 : (ec != -1) = false := by simpa using r7
     have R7 := Lib.hid r7
     clear r7
     obtain ⟨na, rfl⟩ := Int.eq_ofNat_of_zero_le (show 0 ≤ ea by omega)
     obtain ⟨nb, rfl⟩ := Int.eq_ofNat_of_zero_le (show 0 ≤ eb by omega)
     by_cases hj0 : j = 0
     · have y1 : decide (0 < j) = false := by simp; omega
       have y2 : decide ((0 : Int) < (j : Int)) = false := by simp; omega
       have HEz : Hid (Sp.edgeErr ns es j = (if Sp.fitsB ns es ⟨na, nb, ek, ec⟩ = false then 20 else 0)) := by
         show Sp.edgeErr ns es j = _
         rw [HEr.out, if_neg (by omega), if_neg (by omega), if_neg (by have := C2.out; have := R7.out; omega), if_neg (by omega)]
       clear hj0
       go_upto_region 17 with fail
       go_quiet (fail)
       go_wp2_with fail
       refine (fits_any _ _ _ _ _ _ _ na nb ek ec ns es _ (Lib.hid (HW.out.kept (hkw.drewN _))).out (Lib.hid (HWe.out.kept (hkw.drewN _))).out (by omega) (by omega) (by omega) (by omega) (by intros; have := C2.out; have := R7.out; omega)).mono ?_
       rintro e w5 ⟨rfl, hb5⟩
       have hk5 : Kept [] W w5 := (hkw.drewN _).call hb5
       have hB5 := hk5.below hB hB.size (by simp)
       by_cases hfi : Sp.fitsB ns es ⟨na, nb, ek, ec⟩ = true
       · rw [hfi]
         have hfin := Lib.hid (hstep.out (by rw [HEz.out, hfi]; rfl))
         clear hfi
         go_wp2_with fail
         exact ⟨⟨j + 1, by omega, by go_num, hk5, hfin⟩, by simp [intOf]; omega⟩
       · rw [Bool.not_eq_true] at hfi
         rw [hfi]
         have hE : Hid (Sp.superErr ns es mn = 20) := Lib.hid (hbad.out 20 (by rw [HEz.out, hfi]; rfl) (by omega))
         clear hfi
         go_wp2_with fail
         go_ret
         exact ⟨ret_int hE.out.symm, hB5⟩
     · have y1 : decide (0 < j) = true := by simp; omega
       have y2 : decide ((0 : Int) < (j : Int)) = true := by simp; omega
       have y3 : IntKind.i64.wrap ((j : Int) - 1) = (j : Int) - 1 := IntWalk.i64_in _ (by omega)
       have y4 : (0 : Int) ≤ (j : Int) - 1 := by omega
       have y5 : ((j : Int) - 1).toNat = j - 1 := by omega
       have y6 : (j : Int) - 1 < (n2 : Int) := by omega
       have y7 : 0 < j := by omega
       have y8 : 1 ≤ j := by omega
       have y9 : (1 : Int) ≤ (j : Int) := by omega
       have y10 : j ≤ n2 := by omega
       have y11 : j < n2 + 1 := by omega
       have y12 : (j : Int) < (n2 : Int) + 1 := by omega
       have y13 : (j : Int) ≤ (n2 : Int) := by omega
       obtain ⟨p1, p2, p3, p4⟩ := HC.out (j - 1) (by omega)
       obtain ⟨pa, pb, pk, pc, ep⟩ : ∃ pa pb pk pc, ge es (j - 1) = ⟨pa, pb, pk, pc⟩ := ⟨_, _, _, _, rfl⟩
       rw [ep] at p1 p2 p3 p4
       have q1 : V.cell? ⟨b, o + (j - 1) * 4, none⟩ = some (.int .i64 pa) := (hkV.cell b _ LB.out (by simp)).trans p1
       have q2 : V.cell? ⟨b, o + (j - 1) * 4 + 1, none⟩ = some (.int .i64 pb) := (hkV.cell b _ LB.out (by simp)).trans p2
       have q3 : V.cell? ⟨b, o + (j - 1) * 4 + 2, none⟩ = some (.int .i64 pk) := (hkV.cell b _ LB.out (by simp)).trans p3
       have q4 : V.cell? ⟨b, o + (j - 1) * 4 + 3, none⟩ = some (.int .i64 pc) := (hkV.cell b _ LB.out (by simp)).trans p4
       have hbV : b < V.heap.size := Nat.lt_of_lt_of_le LB.out hkV.size
       have HPe := Lib.hid ep
       clear p1 p2 p3 p4 ep hj0
       have HEz : Hid (Sp.edgeErr ns es j = (if Sp.lessE ⟨pa, pb, pk, pc⟩ ⟨na, nb, ek, ec⟩ = false then 13 else if Sp.fitsB ns es ⟨na, nb, ek, ec⟩ = false then 20 else 0)) := by
         show Sp.edgeErr ns es j = _
         rw [HEr.out, HPe.out, if_neg (by omega), if_neg (by omega), if_neg (by have := C2.out; have := R7.out; omega)]
         simp [y7]
       go_upto_region 17 with fail
       go_cut [100] (fun s wx => s = .bool (!Sp.lessE ⟨pa, pb, pk, pc⟩ ⟨na, nb, ek, ec⟩) ∧ Kept [] V wx)
       case first =>
         go_region_held3 (fun w' => SX0 V w') (exact kp0)
           (first | (go_at_call 69; ((with_reducible refine (lessEdge_any pa pb pk pc na nb ek ec _).mono ?_)); rintro e w3 ⟨rfl, hb3⟩; obtain ⟨hc3, hf3, hg3⟩ := bcell hb3; have hz3 := hb3.size; try simp at hz3))
         all_goals
           go_wp2_with fail
           go_meet
           refine ⟨rfl, ?_⟩
           (exact kpt0)
       case rest =>
         obtain ⟨rfl, hkc⟩ := hcut
         have hkwc : Kept [] W wc := keptTrans hkw hkc
         have hBc := hkwc.below hB hB.size (by simp)
         have BC := hkc.blk (by simp) Bg
         have ⟨LC, CC, FC⟩ := BC
         have BD := hkc.blk (by simp) BV
         have ⟨LD, CD, FD⟩ := BD
         have HNC := Lib.hid (HN.out.later hBc)
         have HEC := Lib.hid (HE.out.later hBc)
         clear CG FG CV FV q1 q2 q3 q4
         by_cases hles : Sp.lessE ⟨pa, pb, pk, pc⟩ ⟨na, nb, ek, ec⟩ = true
         · rw [hles]
           have HEz : Hid (Sp.edgeErr ns es j = (if Sp.fitsB ns es ⟨na, nb, ek, ec⟩ = false then 20 else 0)) := by
             show Sp.edgeErr ns es j = _
             rw [HEz.out, hles, if_neg (by simp)]
           clear hles
           go_wp2_with fail
           refine (fits_any _ _ _ _ _ _ _ na nb ek ec ns es _ HNC.out HEC.out (by omega) (by omega) (by omega) (by omega) (by intros; have := C2.out; have := R7.out; omega)).mono ?_
           rintro e w5 ⟨rfl, hb5⟩
           have hk5 : Kept [] W w5 := hkwc.call hb5
           have hB5 := hk5.below hB hB.size (by simp)
           by_cases hfi : Sp.fitsB ns es ⟨na, nb, ek, ec⟩ = true
           · rw [hfi]
             have hfin := Lib.hid (hstep.out (by rw [HEz.out, hfi]; rfl))
             clear hfi
             go_wp2_with fail
             exact ⟨⟨j + 1, by omega, by go_num, hk5, hfin⟩, by simp [intOf]; omega⟩
           · rw [Bool.not_eq_true] at hfi
             rw [hfi]
             have hE : Hid (Sp.superErr ns es mn = 20) := Lib.hid (hbad.out 20 (by rw [HEz.out, hfi]; rfl) (by omega))
             clear hfi
             go_wp2_with fail
             go_ret
             exact ⟨ret_int hE.out.symm, hB5⟩
         · rw [Bool.not_eq_true] at hles
           rw [hles]
           have hE : Hid (Sp.superErr ns es mn = 13) := Lib.hid (hbad.out 13 (by rw [HEz.out, hles]; rfl) (by omega))
           clear hles
           go_wp2_with fail
           go_ret
           exact ⟨ret_int hE.out.symm, hBc⟩
   · have c0 := trivial
     have C2 := Lib.hid c2
     clear c2
     by_cases r7 : ec = -1
     rotate_left
     · have hE : Hid (Sp.superErr ns es mn = 4) := Lib.hid (hbad.out 4 (by rw [HEr.out]; rw [if_neg (by omega), if_neg (by omega), if_pos (by have := C2.out; omega)]) (by omega))
       have z : (ec != -1) = true := by simpa using r7
       go_wp2_with fail
       all_goals
         go_ret
         exact ⟨ret_int hE.out.symm, hBV⟩
     have z7 : (ec != -1) = false := by simpa using r7
     have R7 := Lib.hid r7
     clear r7
     obtain ⟨na, rfl⟩ := Int.eq_ofNat_of_zero_le (show 0 ≤ ea by omega)
     obtain ⟨nb, rfl⟩ := Int.eq_ofNat_of_zero_le (show 0 ≤ eb by omega)
     by_cases hj0 : j = 0
     · have y1 : decide (0 < j) = false := by simp; omega
       have y2 : decide ((0 : Int) < (j : Int)) = false := by simp; omega
       have HEz : Hid (Sp.edgeErr ns es j = (if Sp.fitsB ns es ⟨na, nb, ek, ec⟩ = false then 20 else 0)) := by
         show Sp.edgeErr ns es j = _
         rw [HEr.out, if_neg (by omega), if_neg (by omega), if_neg (by have := C2.out; have := R7.out; omega), if_neg (by omega)]
       clear hj0
       go_upto_region 17 with fail
       go_quiet (fail)
       go_wp2_with fail
       refine (fits_any _ _ _ _ _ _ _ na nb ek ec ns es _ (Lib.hid (HW.out.kept (hkw.drewN _))).out (Lib.hid (HWe.out.kept (hkw.drewN _))).out (by omega) (by omega) (by omega) (by omega) (by intros; have := C2.out; have := R7.out; omega)).mono ?_
       rintro e w5 ⟨rfl, hb5⟩
       have hk5 : Kept [] W w5 := (hkw.drewN _).call hb5
       have hB5 := hk5.below hB hB.size (by simp)
       by_cases hfi : Sp.fitsB ns es ⟨na, nb, ek, ec⟩ = true
       · rw [hfi]
         have hfin := Lib.hid (hstep.out (by rw [HEz.out, hfi]; rfl))
         clear hfi
         go_wp2_with fail
         exact ⟨⟨j + 1, by omega, by go_num, hk5, hfin⟩, by simp [intOf]; omega⟩
       · rw [Bool.not_eq_true] at hfi
         rw [hfi]
         have hE : Hid (Sp.superErr ns es mn = 20) := Lib.hid (hbad.out 20 (by rw [HEz.out, hfi]; rfl) (by omega))
         clear hfi
         go_wp2_with fail
         go_ret
         exact ⟨ret_int hE.out.symm, hB5⟩
     · have y1 : decide (0 < j) = true := by simp; omega
       have y2 : decide ((0 : Int) < (j : Int)) = true := by simp; omega
       have y3 : IntKind.i64.wrap ((j : Int) - 1) = (j : Int) - 1 := IntWalk.i64_in _ (by omega)
       have y4 : (0 : Int) ≤ (j : Int) - 1 := by omega
       have y5 : ((j : Int) - 1).toNat = j - 1 := by omega
       have y6 : (j : Int) - 1 < (n2 : Int) := by omega
       have y7 : 0 < j := by omega
       have y8 : 1 ≤ j := by omega
       have y9 : (1 : Int) ≤ (j : Int) := by omega
       have y10 : j ≤ n2 := by omega
       have y11 : j < n2 + 1 := by omega
       have y12 : (j : Int) < (n2 : Int) + 1 := by omega
       have y13 : (j : Int) ≤ (n2 : Int) := by omega
       obtain ⟨p1, p2, p3, p4⟩ := HC.out (j - 1) (by omega)
       obtain ⟨pa, pb, pk, pc, ep⟩ : ∃ pa pb pk pc, ge es (j - 1) = ⟨pa, pb, pk, pc⟩ := ⟨_, _, _, _, rfl⟩
       rw [ep] at p1 p2 p3 p4
       have q1 : V.cell? ⟨b, o + (j - 1) * 4, none⟩ = some (.int .i64 pa) := (hkV.cell b _ LB.out (by simp)).trans p1
       have q2 : V.cell? ⟨b, o + (j - 1) * 4 + 1, none⟩ = some (.int .i64 pb) := (hkV.cell b _ LB.out (by simp)).trans p2
       have q3 : V.cell? ⟨b, o + (j - 1) * 4 + 2, none⟩ = some (.int .i64 pk) := (hkV.cell b _ LB.out (by simp)).trans p3
       have q4 : V.cell? ⟨b, o + (j - 1) * 4 + 3, none⟩ = some (.int .i64 pc) := (hkV.cell b _ LB.out (by simp)).trans p4
       have hbV : b < V.heap.size := Nat.lt_of_lt_of_le LB.out hkV.size
       have HPe := Lib.hid ep
       clear p1 p2 p3 p4 ep hj0
       have HEz : Hid (Sp.edgeErr ns es j = (if Sp.lessE ⟨pa, pb, pk, pc⟩ ⟨na, nb, ek, ec⟩ = false then 13 else if Sp.fitsB ns es ⟨na, nb, ek, ec⟩ = false then 20 else 0)) := by
         show Sp.edgeErr ns es j = _
         rw [HEr.out, HPe.out, if_neg (by omega), if_neg (by omega), if_neg (by have := C2.out; have := R7.out; omega)]
         simp [y7]
       go_upto_region 17 with fail
       go_cut [100] (fun s wx => s = .bool (!Sp.lessE ⟨pa, pb, pk, pc⟩ ⟨na, nb, ek, ec⟩) ∧ Kept [] V wx)
       case first =>
         go_region_held3 (fun w' => SX0 V w') (exact kp0)
           (first | (go_at_call 69; ((with_reducible refine (lessEdge_any pa pb pk pc na nb ek ec _).mono ?_)); rintro e w3 ⟨rfl, hb3⟩; obtain ⟨hc3, hf3, hg3⟩ := bcell hb3; have hz3 := hb3.size; try simp at hz3))
         all_goals
           go_wp2_with fail
           go_meet
           refine ⟨rfl, ?_⟩
           (exact kpt0)
       case rest =>
         obtain ⟨rfl, hkc⟩ := hcut
         have hkwc : Kept [] W wc := keptTrans hkw hkc
         have hBc := hkwc.below hB hB.size (by simp)
         have BC := hkc.blk (by simp) Bg
         have ⟨LC, CC, FC⟩ := BC
         have BD := hkc.blk (by simp) BV
         have ⟨LD, CD, FD⟩ := BD
         have HNC := Lib.hid (HN.out.later hBc)
         have HEC := Lib.hid (HE.out.later hBc)
         clear CG FG CV FV q1 q2 q3 q4
         by_cases hles : Sp.lessE ⟨pa, pb, pk, pc⟩ ⟨na, nb, ek, ec⟩ = true
         · rw [hles]
           have HEz : Hid (Sp.edgeErr ns es j = (if Sp.fitsB ns es ⟨na, nb, ek, ec⟩ = false then 20 else 0)) := by
             show Sp.edgeErr ns es j = _
             rw [HEz.out, hles, if_neg (by simp)]
           clear hles
           go_wp2_with fail
           refine (fits_any _ _ _ _ _ _ _ na nb ek ec ns es _ HNC.out HEC.out (by omega) (by omega) (by omega) (by omega) (by intros; have := C2.out; have := R7.out; omega)).mono ?_
           rintro e w5 ⟨rfl, hb5⟩
           have hk5 : Kept [] W w5 := hkwc.call hb5
           have hB5 := hk5.below hB hB.size (by simp)
           by_cases hfi : Sp.fitsB ns es ⟨na, nb, ek, ec⟩ = true
           · rw [hfi]
             have hfin := Lib.hid (hstep.out (by rw [HEz.out, hfi]; rfl))
             clear hfi
             go_wp2_with fail
             exact ⟨⟨j + 1, by omega, by go_num, hk5, hfin⟩, by simp [intOf]; omega⟩
           · rw [Bool.not_eq_true] at hfi
             rw [hfi]
             have hE : Hid (Sp.superErr ns es mn = 20) := Lib.hid (hbad.out 20 (by rw [HEz.out, hfi]; rfl) (by omega))
             clear hfi
             go_wp2_with fail
             go_ret
             exact ⟨ret_int hE.out.symm, hB5⟩
         · rw [Bool.not_eq_true] at hles
           rw [hles]
           have hE : Hid (Sp.superErr ns es mn = 13) := Lib.hid (hbad.out 13 (by rw [HEz.out, hles]; rfl) (by omega))
           clear hles
           go_wp2_with fail
           go_ret
           exact ⟨ret_int hE.out.symm, hBc⟩
   · have c0 := trivial
     by_cases r7 : ec < 0
     · have hE : Hid (Sp.superErr ns es mn = 4) := Lib.hid (hbad.out 4 (by rw [HEr.out]; rw [if_neg (by omega), if_neg (by omega), if_pos (by omega)]) (by omega))
       have z : decide (ec < 0) = true := by simpa using r7
       go_wp2_with fail
       all_goals
         go_ret
         exact ⟨ret_int hE.out.symm, hBV⟩
     have z7 : decide (ec < 0) = false := by simpa using r7
     by_cases r8 : (n1 : Int) ≤ ec
     · have hE : Hid (Sp.superErr ns es mn = 4) := Lib.hid (hbad.out 4 (by rw [HEr.out]; rw [if_neg (by omega), if_neg (by omega), if_pos (by omega)]) (by omega))
       have z : decide ((n1 : Int) ≤ ec) = true := by simpa using r8
       go_wp2_with fail
       all_goals
         go_ret
         exact ⟨ret_int hE.out.symm, hBV⟩
     have z8 : decide ((n1 : Int) ≤ ec) = false := by simpa using r8
     obtain ⟨na, rfl⟩ := Int.eq_ofNat_of_zero_le (show 0 ≤ ea by omega)
     obtain ⟨nb, rfl⟩ := Int.eq_ofNat_of_zero_le (show 0 ≤ eb by omega)
     by_cases hj0 : j = 0
     · have y1 : decide (0 < j) = false := by simp; omega
       have y2 : decide ((0 : Int) < (j : Int)) = false := by simp; omega
       have HEz : Hid (Sp.edgeErr ns es j = (if Sp.fitsB ns es ⟨na, nb, ek, ec⟩ = false then 20 else 0)) := by
         show Sp.edgeErr ns es j = _
         rw [HEr.out, if_neg (by omega), if_neg (by omega), if_neg (by omega), if_neg (by omega)]
       clear hj0
       go_upto_region 17 with fail
       go_quiet (fail)
       go_wp2_with fail
       refine (fits_any _ _ _ _ _ _ _ na nb ek ec ns es _ (Lib.hid (HW.out.kept (hkw.drewN _))).out (Lib.hid (HWe.out.kept (hkw.drewN _))).out (by omega) (by omega) (by omega) (by omega) (by intros; omega)).mono ?_
       rintro e w5 ⟨rfl, hb5⟩
       have hk5 : Kept [] W w5 := (hkw.drewN _).call hb5
       have hB5 := hk5.below hB hB.size (by simp)
       by_cases hfi : Sp.fitsB ns es ⟨na, nb, ek, ec⟩ = true
       · rw [hfi]
         have hfin := Lib.hid (hstep.out (by rw [HEz.out, hfi]; rfl))
         clear hfi
         go_wp2_with fail
         exact ⟨⟨j + 1, by omega, by go_num, hk5, hfin⟩, by simp [intOf]; omega⟩
       · rw [Bool.not_eq_true] at hfi
         rw [hfi]
         have hE : Hid (Sp.superErr ns es mn = 20) := Lib.hid (hbad.out 20 (by rw [HEz.out, hfi]; rfl) (by omega))
         clear hfi
         go_wp2_with fail
         go_ret
         exact ⟨ret_int hE.out.symm, hB5⟩
     · have y1 : decide (0 < j) = true := by simp; omega
       have y2 : decide ((0 : Int) < (j : Int)) = true := by simp; omega
       have y3 : IntKind.i64.wrap ((j : Int) - 1) = (j : Int) - 1 := IntWalk.i64_in _ (by omega)
       have y4 : (0 : Int) ≤ (j : Int) - 1 := by omega
       have y5 : ((j : Int) - 1).toNat = j - 1 := by omega
       have y6 : (j : Int) - 1 < (n2 : Int) := by omega
       have y7 : 0 < j := by omega
       have y8 : 1 ≤ j := by omega
       have y9 : (1 : Int) ≤ (j : Int) := by omega
       have y10 : j ≤ n2 := by omega
       have y11 : j < n2 + 1 := by omega
       have y12 : (j : Int) < (n2 : Int) + 1 := by omega
       have y13 : (j : Int) ≤ (n2 : Int) := by omega
       obtain ⟨p1, p2, p3, p4⟩ := HC.out (j - 1) (by omega)
       obtain ⟨pa, pb, pk, pc, ep⟩ : ∃ pa pb pk pc, ge es (j - 1) = ⟨pa, pb, pk, pc⟩ := ⟨_, _, _, _, rfl⟩
       rw [ep] at p1 p2 p3 p4
       have q1 : V.cell? ⟨b, o + (j - 1) * 4, none⟩ = some (.int .i64 pa) := (hkV.cell b _ LB.out (by simp)).trans p1
       have q2 : V.cell? ⟨b, o + (j - 1) * 4 + 1, none⟩ = some (.int .i64 pb) := (hkV.cell b _ LB.out (by simp)).trans p2
       have q3 : V.cell? ⟨b, o + (j - 1) * 4 + 2, none⟩ = some (.int .i64 pk) := (hkV.cell b _ LB.out (by simp)).trans p3
       have q4 : V.cell? ⟨b, o + (j - 1) * 4 + 3, none⟩ = some (.int .i64 pc) := (hkV.cell b _ LB.out (by simp)).trans p4
       have hbV : b < V.heap.size := Nat.lt_of_lt_of_le LB.out hkV.size
       have HPe := Lib.hid ep
       clear p1 p2 p3 p4 ep hj0
       have HEz : Hid (Sp.edgeErr ns es j = (if Sp.lessE ⟨pa, pb, pk, pc⟩ ⟨na, nb, ek, ec⟩ = false then 13 else if Sp.fitsB ns es ⟨na, nb, ek, ec⟩ = false then 20 else 0)) := by
         show Sp.edgeErr ns es j = _
         rw [HEr.out, HPe.out, if_neg (by omega), if_neg (by omega), if_neg (by omega)]
         simp [y7]
       go_upto_region 17 with fail
       go_cut [100] (fun s wx => s = .bool (!Sp.lessE ⟨pa, pb, pk, pc⟩ ⟨na, nb, ek, ec⟩) ∧ Kept [] V wx)
       case first =>
         go_region_held3 (fun w' => SX0 V w') (exact kp0)
           (first | (go_at_call 69; ((with_reducible refine (lessEdge_any pa pb pk pc na nb ek ec _).mono ?_)); rintro e w3 ⟨rfl, hb3⟩; obtain ⟨hc3, hf3, hg3⟩ := bcell hb3; have hz3 := hb3.size; try simp at hz3))
         all_goals
           go_wp2_with fail
           go_meet
           refine ⟨rfl, ?_⟩
           (exact kpt0)
       case rest =>
         obtain ⟨rfl, hkc⟩ := hcut
         have hkwc : Kept [] W wc := keptTrans hkw hkc
         have hBc := hkwc.below hB hB.size (by simp)
         have BC := hkc.blk (by simp) Bg
         have ⟨LC, CC, FC⟩ := BC
         have BD := hkc.blk (by simp) BV
         have ⟨LD, CD, FD⟩ := BD
         have HNC := Lib.hid (HN.out.later hBc)
         have HEC := Lib.hid (HE.out.later hBc)
         clear CG FG CV FV q1 q2 q3 q4
         by_cases hles : Sp.lessE ⟨pa, pb, pk, pc⟩ ⟨na, nb, ek, ec⟩ = true
         · rw [hles]
           have HEz : Hid (Sp.edgeErr ns es j = (if Sp.fitsB ns es ⟨na, nb, ek, ec⟩ = false then 20 else 0)) := by
             show Sp.edgeErr ns es j = _
             rw [HEz.out, hles, if_neg (by simp)]
           clear hles
           go_wp2_with fail
           refine (fits_any _ _ _ _ _ _ _ na nb ek ec ns es _ HNC.out HEC.out (by omega) (by omega) (by omega) (by omega) (by intros; omega)).mono ?_
           rintro e w5 ⟨rfl, hb5⟩
           have hk5 : Kept [] W w5 := hkwc.call hb5
           have hB5 := hk5.below hB hB.size (by simp)
           by_cases hfi : Sp.fitsB ns es ⟨na, nb, ek, ec⟩ = true
           · rw [hfi]
             have hfin := Lib.hid (hstep.out (by rw [HEz.out, hfi]; rfl))
             clear hfi
             go_wp2_with fail
             exact ⟨⟨j + 1, by omega, by go_num, hk5, hfin⟩, by simp [intOf]; omega⟩
           · rw [Bool.not_eq_true] at hfi
             rw [hfi]
             have hE : Hid (Sp.superErr ns es mn = 20) := Lib.hid (hbad.out 20 (by rw [HEz.out, hfi]; rfl) (by omega))
             clear hfi
             go_wp2_with fail
             go_ret
             exact ⟨ret_int hE.out.symm, hB5⟩
         · rw [Bool.not_eq_true] at hles
           rw [hles]
           have hE : Hid (Sp.superErr ns es mn = 13) := Lib.hid (hbad.out 13 (by rw [HEz.out, hles]; rfl) (by omega))
           clear hles
           go_wp2_with fail
           go_ret
           exact ⟨ret_int hE.out.symm, hBc⟩
end Go.Proofs.YtincpmdldpakkaaGreatDoor
namespace Go.Df
open Go.RowKit
namespace Sp
def gl (ls : List (List Xp)) (i : Nat) : List Xp := ls.getD i []
def lessS (a b : Vs) : Bool := if a.n ≠ b.n then decide (a.n < b.n) else decide (a.f < b.f)
theorem ordS_ge (a b : Vs) : decide (0 ≤ orL [cmpI a.n b.n, cmpI a.f b.f]) = !lessS a b := by
 unfold lessS
 rw [or_cmp, or_last]
 split <;> rfl
def seedErr (N : Nat) (F : Int) (l : List Vs) (j : Nat) : Int :=
 if (gs l j).n < 0 ∨ (N : Int) ≤ (gs l j).n ∨ (gs l j).f < 1 ∨ F ≤ (gs l j).f then 4
 else if verr (gs l j).k (gs l j).v ≠ 0 then verr (gs l j).k (gs l j).v
 else if 0 < j ∧ lessS (gs l (j - 1)) (gs l j) = false then 13 else 0
def ideErr (ns : List Nd) (es : List Ed) (m F : Int) (ls : List (List Xp)) (sd : List Vs) : Int :=
 if superErr ns es m ≠ 0 then superErr ns es m else if F < 1 ∨ 1024 < F then 4 else if ls.length ≠ es.length then 20
 else if fe (fun i => pairsErr F (gl ls i)) 0 ls.length ≠ 0 then fe (fun i => pairsErr F (gl ls i)) 0 ls.length else fe (seedErr ns.length F sd) 0 sd.length
theorem ide_flow {ns : List Nd} {es : List Ed} {m F : Int} {ls : List (List Xp)} {sd : List Vs} {e : Int} {j : Nat} (h1 : superErr ns es m = 0) (h2 : ¬ (F < 1 ∨ 1024 < F)) (h3 : ls.length = es.length)
   (h : ∀ x, x < j → pairsErr F (gl ls x) = 0) (hj : j < ls.length) (he : pairsErr F (gl ls j) = e) (h0 : e ≠ 0) : ideErr ns es m F ls sd = e := by
 unfold ideErr
 rw [if_neg (not_not_intro h1), if_neg h2, if_neg (not_not_intro h3), fe_hit h hj he h0, if_pos h0]
theorem ide_seed {ns : List Nd} {es : List Ed} {m F : Int} {ls : List (List Xp)} {sd : List Vs} {e : Int} {j : Nat} (h1 : superErr ns es m = 0) (h2 : ¬ (F < 1 ∨ 1024 < F)) (h3 : ls.length = es.length)
   (h4 : ∀ x, x < ls.length → pairsErr F (gl ls x) = 0) (h : ∀ x, x < j → seedErr ns.length F sd x = 0) (hj : j < sd.length) (he : seedErr ns.length F sd j = e) (h0 : e ≠ 0) : ideErr ns es m F ls sd = e := by
 unfold ideErr
 rw [if_neg (not_not_intro h1), if_neg h2, if_neg (not_not_intro h3), fe_ok ls.length 0 (fun i _ hi => h4 i (by omega)), if_neg (by simp), fe_hit h hj he h0]
theorem ide_ok {ns : List Nd} {es : List Ed} {m F : Int} {ls : List (List Xp)} {sd : List Vs} (h1 : superErr ns es m = 0) (h2 : ¬ (F < 1 ∨ 1024 < F)) (h3 : ls.length = es.length)
   (h4 : ∀ x, x < ls.length → pairsErr F (gl ls x) = 0) (h : ∀ x, x < sd.length → seedErr ns.length F sd x = 0) : ideErr ns es m F ls sd = 0 := by
 unfold ideErr
 rw [if_neg (not_not_intro h1), if_neg h2, if_neg (not_not_intro h3), fe_ok ls.length 0 (fun i _ hi => h4 i (by omega)), if_neg (by simp), fe_ok sd.length 0 (fun i _ hi => h i (by omega))]
end Sp
theorem Xps.kept {w w' : World} {A : Option Addr} {n : Nat} {l : List Sp.Xp} (h : Xps w A n l) (hk : Kept [] w w') : Xps w' A n l := h.later hk.toBelow
def Fls (w : World) (A : Option Addr) (n : Nat) (ls : List (List Sp.Xp)) : Prop :=
 ls.length = n ∧ (0 < n → ∃ b o, A = some ⟨b, o, none⟩ ∧ b < w.heap.size ∧ ∀ i, i < n → ∃ Ai ni ci, w.cell? ⟨b, o + i, none⟩ = some (.slice Ai ni ci) ∧ Xps w Ai ni (Sp.gl ls i))
def Vss (w : World) (A : Option Addr) (n : Nat) (l : List Sp.Vs) : Prop :=
 l.length = n ∧ (0 < n → ∃ b o, A = some ⟨b, o, none⟩ ∧ b < w.heap.size ∧ ∀ i, i < n → w.cell? ⟨b, o + i * 4, none⟩ = some (.int .i64 (Sp.gs l i).n) ∧ w.cell? ⟨b, o + i * 4 + 1, none⟩ = some (.int .i64 (Sp.gs l i).f) ∧ w.cell? ⟨b, o + i * 4 + 2, none⟩ = some (.int .i64 (Sp.gs l i).k) ∧ w.cell? ⟨b, o + i * 4 + 3, none⟩ = some (.int .i64 (Sp.gs l i).v))
theorem Fls.later {w w' : World} {A : Option Addr} {n : Nat} {ls : List (List Sp.Xp)} (h : Fls w A n ls) (hb : Below w.heap.size w w') : Fls w' A n ls :=
 ⟨h.1, fun hn => by
   obtain ⟨b, o, e, hl, hc⟩ := h.2 hn
   refine ⟨b, o, e, Nat.lt_of_lt_of_le hl hb.size, fun i hi => ?_⟩
   obtain ⟨Ai, ni, ci, h1, h2⟩ := hc i hi
   exact ⟨Ai, ni, ci, (hb.cell (p := ⟨b, _, none⟩) hl).trans h1, h2.later hb⟩⟩
theorem Vss.later {w w' : World} {A : Option Addr} {n : Nat} {l : List Sp.Vs} (h : Vss w A n l) (hb : Below w.heap.size w w') : Vss w' A n l :=
 ⟨h.1, fun hn => by
   obtain ⟨b, o, e, hl, hc⟩ := h.2 hn
   exact ⟨b, o, e, Nat.lt_of_lt_of_le hl hb.size, fun i hi => ⟨(hb.cell (p := ⟨b, _, none⟩) hl).trans (hc i hi).1, (hb.cell (p := ⟨b, _, none⟩) hl).trans (hc i hi).2.1, (hb.cell (p := ⟨b, _, none⟩) hl).trans (hc i hi).2.2.1, (hb.cell (p := ⟨b, _, none⟩) hl).trans (hc i hi).2.2.2⟩⟩⟩
end Go.Df
