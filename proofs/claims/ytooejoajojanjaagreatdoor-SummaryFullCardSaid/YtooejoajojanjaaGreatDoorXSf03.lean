/- Texts: Sh Ia Pa Pb. -/
import Derived.Test.YtooejoajojanjaaGreatDoorXSf02
import Derived.Lib.ItoaNum
namespace Go.Df.Sp
def edgeErr (ns : List Nd) (es : List Ed) (j : Nat) : Int :=
 if (ge es j).a < 0 ∨ (ns.length : Int) ≤ (ge es j).a ∨ (ge es j).b < 0 ∨ (ns.length : Int) ≤ (ge es j).b then 4
 else if (ge es j).k < 1 ∨ 5 < (ge es j).k then 12
 else if (((ge es j).k = 1 ∨ (ge es j).k = 5) ∧ (ge es j).c ≠ -1) ∨ ((ge es j).k ≠ 1 ∧ (ge es j).k ≠ 5 ∧ ((ge es j).c < 0 ∨ (ns.length : Int) ≤ (ge es j).c)) then 4
 else if 0 < j ∧ lessE (ge es (j - 1)) (ge es j) = false then 13
 else if fitsB ns es (ge es j) = false then 20 else 0
def superErr (ns : List Nd) (es : List Ed) (m : Int) : Int :=
 if 8192 < ns.length ∨ 32768 < es.length then 3 else if nodesErr ns m ≠ 0 then nodesErr ns m else fe (edgeErr ns es) 0 es.length
theorem super_edge {ns : List Nd} {es : List Ed} {m e : Int} {j : Nat} (h1 : ns.length ≤ 8192) (h2 : es.length ≤ 32768) (hn : nodesErr ns m = 0) (h : ∀ x, x < j → edgeErr ns es x = 0) (hj : j < es.length) (he : edgeErr ns es j = e) (h0 : e ≠ 0) : superErr ns es m = e := by
 unfold superErr
 rw [if_neg (by omega), hn, if_neg (by simp)]
 exact fe_hit h hj he h0
theorem super_ok {ns : List Nd} {es : List Ed} {m : Int} (h1 : ns.length ≤ 8192) (h2 : es.length ≤ 32768) (hn : nodesErr ns m = 0) (h : ∀ x, x < es.length → edgeErr ns es x = 0) : superErr ns es m = 0 := by
 unfold superErr
 rw [if_neg (by omega), hn, if_neg (by simp)]
 exact fe_ok _ 0 (fun i _ hi => h i (by omega))
end Go.Df.Sp
namespace Go.Proofs.YtooejoajojanjaaGreatDoor
open Go.RowKit Go.Df
attribute [local go_sem ↓] Go.wp_at_zero Go.wp_at_succ
set_option maxRecDepth 100000 in
set_option maxHeartbeats 4000000 in
theorem rsuper_any (A1 A2 : Option Addr) (n1 c1 n2 c2 : Nat) (mn : Int) (ns : List Sp.Nd) (es : List Sp.Ed) (w : World) (hn : Nds w A1 n1 ns) (he : Eds w A2 n2 es) :
   Calls Tryz.prog 60 #[.agg #[.slice A1 n1 c1, .slice A2 n2 c2, .int .i64 mn]] w fun e w' => e = .returned (.int .i64 (Sp.superErr ns es mn)) ∧ Below w.heap.size w w' := by
 have HN := Lib.hid hn
 have HL := Lib.hid hn.1
 have HE := Lib.hid he
 have HLe := Lib.hid he.1
 clear hn he
 by_cases t1 : 8192 < n1
 · have d1 : decide ((8192 : Int) < n1) = true := by simp; omega
   go_enter Tryz.func60, Tryz.ntmps60
   go_wp2_with fail
   go_ret
   exact ⟨ret_int (by unfold Sp.superErr; rw [HL.out, if_pos (by omega)]), by go_grown⟩
 have d1 : decide ((8192 : Int) < n1) = false := by simp; omega
 by_cases t2 : 32768 < n2
 · have d2 : decide ((32768 : Int) < n2) = true := by simp; omega
   go_enter Tryz.func60, Tryz.ntmps60
   go_wp2_with fail
   go_ret
   exact ⟨ret_int (by unfold Sp.superErr; rw [HLe.out, if_pos (by omega)]), by go_grown⟩
 have d2 : decide ((32768 : Int) < n2) = false := by simp; omega
 go_enter Tryz.func60, Tryz.ntmps60
 go_upto_region 1 with fail
 refine wp_named (fun W => ∃ b0, w.heap.size = b0 ∧ Blk W b0 [.slice A1 n1 c1, .slice A2 n2 c2, .int .i64 mn] ∧ Below w.heap.size w W) ⟨_, rfl, ?_, ?_⟩ ?_
 · exact kbn
 · go_grown
 rintro W ⟨b0, e0, B0, hB⟩
 rw [e0]
 have G0 : w.heap.size ≤ b0 := by omega
 clear e0
 have ⟨L0, C0, F0⟩ := B0
 have HW := Lib.hid (HN.out.later hB)
 have HWe := Lib.hid (HE.out.later hB)
 go_wp2_with fail
 refine (nodes_any _ _ _ _ _ _ _ ns _ HW.out (by omega)).mono ?_
 rintro e w1 ⟨rfl, hb1⟩
 have hk1 : Kept [] W w1 := (Kept.refl _ _).call hb1
 have B01 := hk1.blk (by simp) B0
 have ⟨L01, C01, F01⟩ := B01
 clear C0 F0
 by_cases hne : Sp.nodesErr ns mn = 0
 case neg =>
   have hne' : (Sp.nodesErr ns mn != 0) = true := by simpa using hne
   go_wp2_with fail
   go_ret
   exact ⟨ret_int (by unfold Sp.superErr; rw [HL.out, HLe.out, if_neg (by omega), if_pos hne]), hk1.below hB hB.size (by simp)⟩
 rw [hne]
 have HNe := Lib.hid hne
 clear hne
 go_wp2_with fail
 go_loopw [4] (fun i wr => ∃ j : Nat, j ≤ n2 ∧ i = .int .i64 j ∧ Kept [] W wr ∧ Hid (∀ x, x < j → Sp.edgeErr ns es x = 0)) (fun i _ => n2 - (intOf i).toNat)
 case atStart => exact ⟨0, Nat.zero_le _, rfl, hk1, Lib.hid (fun j hj => absurd hj (by omega))⟩
 case round =>
   obtain ⟨j, hj, rfl, hkr, hno⟩ := hrel
   have BR := hkr.blk (by simp) B0
   have ⟨LR, CR, FR⟩ := BR
   clear C01 F01
   by_cases hlt : j < n2
   case neg =>
     go_wp2_with fail
     go_ret
     exact ⟨ret_int (Sp.super_ok (by rw [HL.out]; omega) (by rw [HLe.out]; omega) HNe.out (fun x hx => hno.out x (by rw [HLe.out] at hx; omega))).symm, hkr.below hB hB.size (by simp)⟩
   obtain ⟨b, o, rfl, hl, hc⟩ := (HWe.out.kept hkr).2 (by omega)
   obtain ⟨h1, h2, h3, h4⟩ := hc j hlt
   have HC := Lib.hid hc
   have LB := Lib.hid hl
   clear hc
   obtain ⟨ea, eb, ek, ec, en⟩ : ∃ ea eb ek ec, ge es j = ⟨ea, eb, ek, ec⟩ := ⟨_, _, _, _, rfl⟩
   rw [en] at h1 h2 h3 h4
   have HEe := Lib.hid en
   clear en
   go_upto_region 10 with fail
   refine wp_named (fun V => ∃ g, wr.heap.size = g ∧ Blk V g [.int .i64 ea, .int .i64 eb, .int .i64 ek, .int .i64 ec] ∧ Kept [] wr V) ⟨_, rfl, Blk.new _ _ _ _ rfl, (Kept.refl _ _).alloc _⟩ ?_
   rintro V ⟨g, eg, Bg, hkV⟩
   rw [eg]
   have hkw : Kept [] W V := keptTrans hkr hkV
   have BV := hkw.blk (by simp) B0
   have ⟨LV, CV, FV⟩ := BV
   have ⟨LG, CG, FG⟩ := Bg
   have hBV := hkw.below hB hB.size (by simp)
   have HNV := Lib.hid (HN.out.later hBV)
   have HEV := Lib.hid (HE.out.later hBV)
   clear CR FR h1 h2 h3 h4 eg
   have hbad : Hid (∀ e, Sp.edgeErr ns es j = e → e ≠ 0 → Sp.superErr ns es mn = e) := fun e h1 h2 => Sp.super_edge (by rw [HL.out]; omega) (by rw [HLe.out]; omega) HNe.out hno.out (by rw [HLe.out]; exact hlt) h1 h2
   have hstep : Hid (Sp.edgeErr ns es j = 0 → ∀ x, x < j + 1 → Sp.edgeErr ns es x = 0) := fun h0 x hx => by
     rcases Nat.lt_or_ge x j with h9 | h9
     · exact hno.out x h9
     · obtain rfl : x = j := by omega
       exact h0
   have HEr : Hid (Sp.edgeErr ns es j = (if ea < 0 ∨ (n1 : Int) ≤ ea ∨ eb < 0 ∨ (n1 : Int) ≤ eb then 4
     else if ek < 1 ∨ 5 < ek then 12
     else if ((ek = 1 ∨ ek = 5) ∧ ec ≠ -1) ∨ (ek ≠ 1 ∧ ek ≠ 5 ∧ (ec < 0 ∨ (n1 : Int) ≤ ec)) then 4
     else if 0 < j ∧ Sp.lessE (ge es (j - 1)) ⟨ea, eb, ek, ec⟩ = false then 13
     else if Sp.fitsB ns es ⟨ea, eb, ek, ec⟩ = false then 20 else 0)) := by
     show Sp.edgeErr ns es j = _
     unfold Sp.edgeErr
     rw [HEe.out, HL.out]
   have hk15 : (ek == 1) = decide (ek = 1) := by rw [Bool.eq_iff_iff]; simp
   clear hk15
   by_cases r1 : ea < 0
   · have hE : Hid (Sp.superErr ns es mn = 4) := Lib.hid (hbad.out 4 (by rw [HEr.out]; rw [if_pos (by omega)]) (by omega))
     have z : decide (ea < 0) = true := by simpa using r1
     go_wp2_with fail
     all_goals
       go_ret
       exact ⟨ret_int hE.out.symm, hBV⟩
   have z1 : decide (ea < 0) = false := by simpa using r1
   by_cases r2 : (n1 : Int) ≤ ea
   · have hE : Hid (Sp.superErr ns es mn = 4) := Lib.hid (hbad.out 4 (by rw [HEr.out]; rw [if_pos (by omega)]) (by omega))
     have z : decide ((n1 : Int) ≤ ea) = true := by simpa using r2
     go_wp2_with fail
     all_goals
       go_ret
       exact ⟨ret_int hE.out.symm, hBV⟩
   have z2 : decide ((n1 : Int) ≤ ea) = false := by simpa using r2
   by_cases r3 : eb < 0
   · have hE : Hid (Sp.superErr ns es mn = 4) := Lib.hid (hbad.out 4 (by rw [HEr.out]; rw [if_pos (by omega)]) (by omega))
     have z : decide (eb < 0) = true := by simpa using r3
     go_wp2_with fail
     all_goals
       go_ret
       exact ⟨ret_int hE.out.symm, hBV⟩
   have z3 : decide (eb < 0) = false := by simpa using r3
   by_cases r4 : (n1 : Int) ≤ eb
   · have hE : Hid (Sp.superErr ns es mn = 4) := Lib.hid (hbad.out 4 (by rw [HEr.out]; rw [if_pos (by omega)]) (by omega))
     have z : decide ((n1 : Int) ≤ eb) = true := by simpa using r4
     go_wp2_with fail
     all_goals
       go_ret
       exact ⟨ret_int hE.out.symm, hBV⟩
   have z4 : decide ((n1 : Int) ≤ eb) = false := by simpa using r4
   by_cases r5 : ek < 1
   · have hE : Hid (Sp.superErr ns es mn = 12) := Lib.hid (hbad.out 12 (by rw [HEr.out]; rw [if_neg (by omega), if_pos (by omega)]) (by omega))
     have z : decide (ek < 1) = true := by simpa using r5
     go_wp2_with fail
     all_goals
       go_ret
       exact ⟨ret_int hE.out.symm, hBV⟩
   have z5 : decide (ek < 1) = false := by simpa using r5
   by_cases r6 : 5 < ek
   · have hE : Hid (Sp.superErr ns es mn = 12) := Lib.hid (hbad.out 12 (by rw [HEr.out]; rw [if_neg (by omega), if_pos (by omega)]) (by omega))
     have z : decide (5 < ek) = true := by simpa using r6
     go_wp2_with fail
     all_goals
       go_ret
       exact ⟨ret_int hE.out.symm, hBV⟩
   have z6 : decide (5 < ek) = false := by simpa using r6
   have hcall : ((ek == 1) = true ∧ ek = 1 ∧ ek ≠ 2) ∨ ((ek == 1) = false ∧ (ek == 5) = true ∧ ek = 5) ∨ ((ek == 1) = false ∧ (ek == 5) = false ∧ ek ≠ 1 ∧ ek ≠ 5) := by
     by_cases e9 : ek = 1
     · exact .inl ⟨by simpa using e9, e9, by omega⟩
     · by_cases e8 : ek = 5
       · exact .inr (.inl ⟨by simpa using e9, by simpa using e8, e8⟩)
       · exact .inr (.inr ⟨by simpa using e9, by simpa using e8, e9, e8⟩)
   rcases hcall with ⟨c1, c2, -⟩ | ⟨c1, c3, c2⟩ | ⟨c1, c3, c2, c4⟩
   · have c0 := trivial
     have C2 := Lib.hid c2
     clear c2
     by_cases r7 : ec = -1
     rotate_left
     · have hE : Hid (Sp.superErr ns es mn = 4) := Lib.hid (hbad.out 4 (by rw [HEr.out]; rw [if_neg (by omega), if_neg (by omega), if_pos (by have := C2.out; omega)]) (by omega))
       have z : (ec != -1) = true := by simpa using r7
       go_wp2_with fail
       all_goals
         go_ret
         exact ⟨ret_int hE.out.symm, hBV⟩
     have z7 : (ec != -1) = false := by simpa using r7
     have R7 := Lib.hid r7
     clear r7
     obtain ⟨na, rfl⟩ := Int.eq_ofNat_of_zero_le (show 0 ≤ ea by omega)
     obtain ⟨nb, rfl⟩ := Int.eq_ofNat_of_zero_le (show 0 ≤ eb by omega)
     by_cases hj0 : j = 0
     · have y1 : decide (0 < j) = false := by simp; omega
       have y2 : decide ((0 : Int) < (j : Int)) = false := by simp; omega
       have HEz : Hid (Sp.edgeErr ns es j = (if Sp.fitsB ns es ⟨na, nb, ek, ec⟩ = false then 20 else 0)) := by
         show Sp.edgeErr ns es j = _
         rw [HEr.out, if_neg (by omega), if_neg (by omega), if_neg (by have := C2.out; have := R7.out; omega), if_neg (by omega)]
       clear hj0
       go_upto_region 17 with fail
       go_quiet (fail)
       go_wp2_with fail
       refine (fits_any _ _ _ _ _ _ _ na nb ek ec ns es _ (Lib.hid (HW.out.kept (hkw.drewN _))).out (Lib.hid (HWe.out.kept (hkw.drewN _))).out (by omega) (by omega) (by omega) (by omega) (by intros; have := C2.out; have := R7.out; omega)).mono ?_
       rintro e w5 ⟨rfl, hb5⟩
       have hk5 : Kept [] W w5 := (hkw.drewN _).call hb5
       have hB5 := hk5.below hB hB.size (by simp)
       by_cases hfi : Sp.fitsB ns es ⟨na, nb, ek, ec⟩ = true
       · rw [hfi]
         have hfin := Lib.hid (hstep.out (by rw [HEz.out, hfi]; rfl))
         clear hfi
         go_wp2_with fail
         exact ⟨⟨j + 1, by omega, by go_num, hk5, hfin⟩, by simp [intOf]; omega⟩
       · rw [Bool.not_eq_true] at hfi
         rw [hfi]
         have hE : Hid (Sp.superErr ns es mn = 20) := Lib.hid (hbad.out 20 (by rw [HEz.out, hfi]; rfl) (by omega))
         clear hfi
         go_wp2_with fail
         go_ret
         exact ⟨ret_int hE.out.symm, hB5⟩
     · have y1 : decide (0 < j) = true := by simp; omega
       have y2 : decide ((0 : Int) < (j : Int)) = true := by simp; omega
       have y3 : IntKind.i64.wrap ((j : Int) - 1) = (j : Int) - 1 := IntWalk.i64_in _ (by omega)
       have y4 : (0 : Int) ≤ (j : Int) - 1 := by omega
       have y5 : ((j : Int) - 1).toNat = j - 1 := by omega
       have y6 : (j : Int) - 1 < (n2 : Int) := by omega
       have y7 : 0 < j := by omega
       have y8 : 1 ≤ j := by omega
       have y9 : (1 : Int) ≤ (j : Int) := by omega
       have y10 : j ≤ n2 := by omega
       have y11 : j < n2 + 1 := by omega
       have y12 : (j : Int) < (n2 : Int) + 1 := by omega
       have y13 : (j : Int) ≤ (n2 : Int) := by omega
       obtain ⟨p1, p2, p3, p4⟩ := HC.out (j - 1) (by omega)
       obtain ⟨pa, pb, pk, pc, ep⟩ : ∃ pa pb pk pc, ge es (j - 1) = ⟨pa, pb, pk, pc⟩ := ⟨_, _, _, _, rfl⟩
       rw [ep] at p1 p2 p3 p4
       have q1 : V.cell? ⟨b, o + (j - 1) * 4, none⟩ = some (.int .i64 pa) := (hkV.cell b _ LB.out (by simp)).trans p1
       have q2 : V.cell? ⟨b, o + (j - 1) * 4 + 1, none⟩ = some (.int .i64 pb) := (hkV.cell b _ LB.out (by simp)).trans p2
       have q3 : V.cell? ⟨b, o + (j - 1) * 4 + 2, none⟩ = some (.int .i64 pk) := (hkV.cell b _ LB.out (by simp)).trans p3
       have q4 : V.cell? ⟨b, o + (j - 1) * 4 + 3, none⟩ = some (.int .i64 pc) := (hkV.cell b _ LB.out (by simp)).trans p4
       have hbV : b < V.heap.size := Nat.lt_of_lt_of_le LB.out hkV.size
       have HPe := Lib.hid ep
       clear p1 p2 p3 p4 ep hj0
       have HEz : Hid (Sp.edgeErr ns es j = (if Sp.lessE ⟨pa, pb, pk, pc⟩ ⟨na, nb, ek, ec⟩ = false then 13 else if Sp.fitsB ns es ⟨na, nb, ek, ec⟩ = false then 20 else 0)) := by
         show Sp.edgeErr ns es j = _
         rw [HEr.out, HPe.out, if_neg (by omega), if_neg (by omega), if_neg (by have := C2.out; have := R7.out; omega)]
         simp [y7]
       go_upto_region 17 with fail
       go_cut [100] (fun s wx => s = .bool (!Sp.lessE ⟨pa, pb, pk, pc⟩ ⟨na, nb, ek, ec⟩) ∧ Kept [] V wx)
       case first =>
         go_region_held3 (fun w' => SX0 V w') (exact kp0)
           (first | (go_at_call 106; ((with_reducible refine (lessEdge_any pa pb pk pc na nb ek ec _).mono ?_)); rintro e w3 ⟨rfl, hb3⟩; obtain ⟨hc3, hf3, hg3⟩ := bcell hb3; have hz3 := hb3.size; try simp at hz3))
         all_goals
           go_wp2_with fail
           go_meet
           refine ⟨rfl, ?_⟩
           (exact kpt0)
       case rest =>
         obtain ⟨rfl, hkc⟩ := hcut
         have hkwc : Kept [] W wc := keptTrans hkw hkc
         have hBc := hkwc.below hB hB.size (by simp)
         have BC := hkc.blk (by simp) Bg
         have ⟨LC, CC, FC⟩ := BC
         have BD := hkc.blk (by simp) BV
         have ⟨LD, CD, FD⟩ := BD
         have HNC := Lib.hid (HN.out.later hBc)
         have HEC := Lib.hid (HE.out.later hBc)
         clear CG FG CV FV q1 q2 q3 q4
         by_cases hles : Sp.lessE ⟨pa, pb, pk, pc⟩ ⟨na, nb, ek, ec⟩ = true
         · rw [hles]
           have HEz : Hid (Sp.edgeErr ns es j = (if Sp.fitsB ns es ⟨na, nb, ek, ec⟩ = false then 20 else 0)) := by
             show Sp.edgeErr ns es j = _
             rw [HEz.out, hles, if_neg (by simp)]
           clear hles
           go_wp2_with fail
           refine (fits_any _ _ _ _ _ _ _ na nb ek ec ns es _ HNC.out HEC.out (by omega) (by omega) (by omega) (by omega) (by intros; have := C2.out; have := R7.out; omega)).mono ?_
           rintro e w5 ⟨rfl, hb5⟩
           have hk5 : Kept [] W w5 := hkwc.call hb5
           have hB5 := hk5.below hB hB.size (by simp)
           by_cases hfi : Sp.fitsB ns es ⟨na, nb, ek, ec⟩ = true
           · rw [hfi]
             have hfin := Lib.hid (hstep.out (by rw [HEz.out, hfi]; rfl))
             clear hfi
             go_wp2_with fail
             exact ⟨⟨j + 1, by omega, by go_num, hk5, hfin⟩, by simp [intOf]; omega⟩
           · rw [Bool.not_eq_true] at hfi
             rw [hfi]
             have hE : Hid (Sp.superErr ns es mn = 20) := Lib.hid (hbad.out 20 (by rw [HEz.out, hfi]; rfl) (by omega))
             clear hfi
             go_wp2_with fail
             go_ret
             exact ⟨ret_int hE.out.symm, hB5⟩
         · rw [Bool.not_eq_true] at hles
           rw [hles]
           have hE : Hid (Sp.superErr ns es mn = 13) := Lib.hid (hbad.out 13 (by rw [HEz.out, hles]; rfl) (by omega))
           clear hles
           go_wp2_with fail
           go_ret
           exact ⟨ret_int hE.out.symm, hBc⟩
   · have c0 := trivial
     have C2 := Lib.hid c2
     clear c2
     by_cases r7 : ec = -1
     rotate_left
     · have hE : Hid (Sp.superErr ns es mn = 4) := Lib.hid (hbad.out 4 (by rw [HEr.out]; rw [if_neg (by omega), if_neg (by omega), if_pos (by have := C2.out; omega)]) (by omega))
       have z : (ec != -1) = true := by simpa using r7
       go_wp2_with fail
       all_goals
         go_ret
         exact ⟨ret_int hE.out.symm, hBV⟩
     have z7 : (ec != -1) = false := by simpa using r7
     have R7 := Lib.hid r7
     clear r7
     obtain ⟨na, rfl⟩ := Int.eq_ofNat_of_zero_le (show 0 ≤ ea by omega)
     obtain ⟨nb, rfl⟩ := Int.eq_ofNat_of_zero_le (show 0 ≤ eb by omega)
     by_cases hj0 : j = 0
     · have y1 : decide (0 < j) = false := by simp; omega
       have y2 : decide ((0 : Int) < (j : Int)) = false := by simp; omega
       have HEz : Hid (Sp.edgeErr ns es j = (if Sp.fitsB ns es ⟨na, nb, ek, ec⟩ = false then 20 else 0)) := by
         show Sp.edgeErr ns es j = _
         rw [HEr.out, if_neg (by omega), if_neg (by omega), if_neg (by have := C2.out; have := R7.out; omega), if_neg (by omega)]
       clear hj0
       go_upto_region 17 with fail
       go_quiet (fail)
       go_wp2_with fail
       refine (fits_any _ _ _ _ _ _ _ na nb ek ec ns es _ (Lib.hid (HW.out.kept (hkw.drewN _))).out (Lib.hid (HWe.out.kept (hkw.drewN _))).out (by omega) (by omega) (by omega) (by omega) (by intros; have := C2.out; have := R7.out; omega)).mono ?_
       rintro e w5 ⟨rfl, hb5⟩
       have hk5 : Kept [] W w5 := (hkw.drewN _).call hb5
       have hB5 := hk5.below hB hB.size (by simp)
       by_cases hfi : Sp.fitsB ns es ⟨na, nb, ek, ec⟩ = true
       · rw [hfi]
         have hfin := Lib.hid (hstep.out (by rw [HEz.out, hfi]; rfl))
         clear hfi
         go_wp2_with fail
         exact ⟨⟨j + 1, by omega, by go_num, hk5, hfin⟩, by simp [intOf]; omega⟩
       · rw [Bool.not_eq_true] at hfi
         rw [hfi]
         have hE : Hid (Sp.superErr ns es mn = 20) := Lib.hid (hbad.out 20 (by rw [HEz.out, hfi]; rfl) (by omega))
         clear hfi
         go_wp2_with fail
         go_ret
         exact ⟨ret_int hE.out.symm, hB5⟩
     · have y1 : decide (0 < j) = true := by simp; omega
       have y2 : decide ((0 : Int) < (j : Int)) = true := by simp; omega
       have y3 : IntKind.i64.wrap ((j : Int) - 1) = (j : Int) - 1 := IntWalk.i64_in _ (by omega)
       have y4 : (0 : Int) ≤ (j : Int) - 1 := by omega
       have y5 : ((j : Int) - 1).toNat = j - 1 := by omega
       have y6 : (j : Int) - 1 < (n2 : Int) := by omega
       have y7 : 0 < j := by omega
       have y8 : 1 ≤ j := by omega
       have y9 : (1 : Int) ≤ (j : Int) := by omega
       have y10 : j ≤ n2 := by omega
       have y11 : j < n2 + 1 := by omega
       have y12 : (j : Int) < (n2 : Int) + 1 := by omega
       have y13 : (j : Int) ≤ (n2 : Int) := by omega
       obtain ⟨p1, p2, p3, p4⟩ := HC.out (j - 1) (by omega)
       obtain ⟨pa, pb, pk, pc, ep⟩ : ∃ pa pb pk pc, ge es (j - 1) = ⟨pa, pb, pk, pc⟩ := ⟨_, _, _, _, rfl⟩
       rw [ep] at p1 p2 p3 p4
       have q1 : V.cell? ⟨b, o + (j - 1) * 4, none⟩ = some (.int .i64 pa) := (hkV.cell b _ LB.out (by simp)).trans p1
       have q2 : V.cell? ⟨b, o + (j - 1) * 4 + 1, none⟩ = some (.int .i64 pb) := (hkV.cell b _ LB.out (by simp)).trans p2
       have q3 : V.cell? ⟨b, o + (j - 1) * 4 + 2, none⟩ = some (.int .i64 pk) := (hkV.cell b _ LB.out (by simp)).trans p3
       have q4 : V.cell? ⟨b, o + (j - 1) * 4 + 3, none⟩ = some (.int .i64 pc) := (hkV.cell b _ LB.out (by simp)).trans p4
       have hbV : b < V.heap.size := Nat.lt_of_lt_of_le LB.out hkV.size
       have HPe := Lib.hid ep
       clear p1 p2 p3 p4 ep hj0
       have HEz : Hid (Sp.edgeErr ns es j = (if Sp.lessE ⟨pa, pb, pk, pc⟩ ⟨na, nb, ek, ec⟩ = false then 13 else if Sp.fitsB ns es ⟨na, nb, ek, ec⟩ = false then 20 else 0)) := by
         show Sp.edgeErr ns es j = _
         rw [HEr.out, HPe.out, if_neg (by omega), if_neg (by omega), if_neg (by have := C2.out; have := R7.out; omega)]
         simp [y7]
       go_upto_region 17 with fail
       go_cut [100] (fun s wx => s = .bool (!Sp.lessE ⟨pa, pb, pk, pc⟩ ⟨na, nb, ek, ec⟩) ∧ Kept [] V wx)
       case first =>
         go_region_held3 (fun w' => SX0 V w') (exact kp0)
           (first | (go_at_call 106; ((with_reducible refine (lessEdge_any pa pb pk pc na nb ek ec _).mono ?_)); rintro e w3 ⟨rfl, hb3⟩; obtain ⟨hc3, hf3, hg3⟩ := bcell hb3; have hz3 := hb3.size; try simp at hz3))
         all_goals
           go_wp2_with fail
           go_meet
           refine ⟨rfl, ?_⟩
           (exact kpt0)
       case rest =>
         obtain ⟨rfl, hkc⟩ := hcut
         have hkwc : Kept [] W wc := keptTrans hkw hkc
         have hBc := hkwc.below hB hB.size (by simp)
         have BC := hkc.blk (by simp) Bg
         have ⟨LC, CC, FC⟩ := BC
         have BD := hkc.blk (by simp) BV
         have ⟨LD, CD, FD⟩ := BD
         have HNC := Lib.hid (HN.out.later hBc)
         have HEC := Lib.hid (HE.out.later hBc)
         clear CG FG CV FV q1 q2 q3 q4
         by_cases hles : Sp.lessE ⟨pa, pb, pk, pc⟩ ⟨na, nb, ek, ec⟩ = true
         · rw [hles]
           have HEz : Hid (Sp.edgeErr ns es j = (if Sp.fitsB ns es ⟨na, nb, ek, ec⟩ = false then 20 else 0)) := by
             show Sp.edgeErr ns es j = _
             rw [HEz.out, hles, if_neg (by simp)]
           clear hles
           go_wp2_with fail
           refine (fits_any _ _ _ _ _ _ _ na nb ek ec ns es _ HNC.out HEC.out (by omega) (by omega) (by omega) (by omega) (by intros; have := C2.out; have := R7.out; omega)).mono ?_
           rintro e w5 ⟨rfl, hb5⟩
           have hk5 : Kept [] W w5 := hkwc.call hb5
           have hB5 := hk5.below hB hB.size (by simp)
           by_cases hfi : Sp.fitsB ns es ⟨na, nb, ek, ec⟩ = true
           · rw [hfi]
             have hfin := Lib.hid (hstep.out (by rw [HEz.out, hfi]; rfl))
             clear hfi
             go_wp2_with fail
             exact ⟨⟨j + 1, by omega, by go_num, hk5, hfin⟩, by simp [intOf]; omega⟩
           · rw [Bool.not_eq_true] at hfi
             rw [hfi]
             have hE : Hid (Sp.superErr ns es mn = 20) := Lib.hid (hbad.out 20 (by rw [HEz.out, hfi]; rfl) (by omega))
             clear hfi
             go_wp2_with fail
             go_ret
             exact ⟨ret_int hE.out.symm, hB5⟩
         · rw [Bool.not_eq_true] at hles
           rw [hles]
           have hE : Hid (Sp.superErr ns es mn = 13) := Lib.hid (hbad.out 13 (by rw [HEz.out, hles]; rfl) (by omega))
           clear hles
           go_wp2_with fail
           go_ret
           exact ⟨ret_int hE.out.symm, hBc⟩
   · have c0 := trivial
     by_cases r7 : ec < 0
     · have hE : Hid (Sp.superErr ns es mn = 4) := Lib.hid (hbad.out 4 (by rw [HEr.out]; rw [if_neg (by omega), if_neg (by omega), if_pos (by omega)]) (by omega))
       have z : decide (ec < 0) = true := by simpa using r7
       go_wp2_with fail
       all_goals
         go_ret
         exact ⟨ret_int hE.out.symm, hBV⟩
     have z7 : decide (ec < 0) = false := by simpa using r7
     by_cases r8 : (n1 : Int) ≤ ec
     · have hE : Hid (Sp.superErr ns es mn = 4) := Lib.hid (hbad.out 4 (by rw [HEr.out]; rw [if_neg (by omega), if_neg (by omega), if_pos (by omega)]) (by omega))
       have z : decide ((n1 : Int) ≤ ec) = true := by simpa using r8
       go_wp2_with fail
       all_goals
         go_ret
         exact ⟨ret_int hE.out.symm, hBV⟩
     have z8 : decide ((n1 : Int) ≤ ec) = false := by simpa using r8
     obtain ⟨na, rfl⟩ := Int.eq_ofNat_of_zero_le (show 0 ≤ ea by omega)
     obtain ⟨nb, rfl⟩ := Int.eq_ofNat_of_zero_le (show 0 ≤ eb by omega)
     by_cases hj0 : j = 0
     · have y1 : decide (0 < j) = false := by simp; omega
       have y2 : decide ((0 : Int) < (j : Int)) = false := by simp; omega
       have HEz : Hid (Sp.edgeErr ns es j = (if Sp.fitsB ns es ⟨na, nb, ek, ec⟩ = false then 20 else 0)) := by
         show Sp.edgeErr ns es j = _
         rw [HEr.out, if_neg (by omega), if_neg (by omega), if_neg (by omega), if_neg (by omega)]
       clear hj0
       go_upto_region 17 with fail
       go_quiet (fail)
       go_wp2_with fail
       refine (fits_any _ _ _ _ _ _ _ na nb ek ec ns es _ (Lib.hid (HW.out.kept (hkw.drewN _))).out (Lib.hid (HWe.out.kept (hkw.drewN _))).out (by omega) (by omega) (by omega) (by omega) (by intros; omega)).mono ?_
       rintro e w5 ⟨rfl, hb5⟩
       have hk5 : Kept [] W w5 := (hkw.drewN _).call hb5
       have hB5 := hk5.below hB hB.size (by simp)
       by_cases hfi : Sp.fitsB ns es ⟨na, nb, ek, ec⟩ = true
       · rw [hfi]
         have hfin := Lib.hid (hstep.out (by rw [HEz.out, hfi]; rfl))
         clear hfi
         go_wp2_with fail
         exact ⟨⟨j + 1, by omega, by go_num, hk5, hfin⟩, by simp [intOf]; omega⟩
       · rw [Bool.not_eq_true] at hfi
         rw [hfi]
         have hE : Hid (Sp.superErr ns es mn = 20) := Lib.hid (hbad.out 20 (by rw [HEz.out, hfi]; rfl) (by omega))
         clear hfi
         go_wp2_with fail
         go_ret
         exact ⟨ret_int hE.out.symm, hB5⟩
     · have y1 : decide (0 < j) = true := by simp; omega
       have y2 : decide ((0 : Int) < (j : Int)) = true := by simp; omega
       have y3 : IntKind.i64.wrap ((j : Int) - 1) = (j : Int) - 1 := IntWalk.i64_in _ (by omega)
       have y4 : (0 : Int) ≤ (j : Int) - 1 := by omega
       have y5 : ((j : Int) - 1).toNat = j - 1 := by omega
       have y6 : (j : Int) - 1 < (n2 : Int) := by omega
       have y7 : 0 < j := by omega
       have y8 : 1 ≤ j := by omega
       have y9 : (1 : Int) ≤ (j : Int) := by omega
       have y10 : j ≤ n2 := by omega
       have y11 : j < n2 + 1 := by omega
       have y12 : (j : Int) < (n2 : Int) + 1 := by omega
       have y13 : (j : Int) ≤ (n2 : Int) := by omega
       obtain ⟨p1, p2, p3, p4⟩ := HC.out (j - 1) (by omega)
       obtain ⟨pa, pb, pk, pc, ep⟩ : ∃ pa pb pk pc, ge es (j - 1) = ⟨pa, pb, pk, pc⟩ := ⟨_, _, _, _, rfl⟩
       rw [ep] at p1 p2 p3 p4
       have q1 : V.cell? ⟨b, o + (j - 1) * 4, none⟩ = some (.int .i64 pa) := (hkV.cell b _ LB.out (by simp)).trans p1
       have q2 : V.cell? ⟨b, o + (j - 1) * 4 + 1, none⟩ = some (.int .i64 pb) := (hkV.cell b _ LB.out (by simp)).trans p2
       have q3 : V.cell? ⟨b, o + (j - 1) * 4 + 2, none⟩ = some (.int .i64 pk) := (hkV.cell b _ LB.out (by simp)).trans p3
       have q4 : V.cell? ⟨b, o + (j - 1) * 4 + 3, none⟩ = some (.int .i64 pc) := (hkV.cell b _ LB.out (by simp)).trans p4
       have hbV : b < V.heap.size := Nat.lt_of_lt_of_le LB.out hkV.size
       have HPe := Lib.hid ep
       clear p1 p2 p3 p4 ep hj0
       have HEz : Hid (Sp.edgeErr ns es j = (if Sp.lessE ⟨pa, pb, pk, pc⟩ ⟨na, nb, ek, ec⟩ = false then 13 else if Sp.fitsB ns es ⟨na, nb, ek, ec⟩ = false then 20 else 0)) := by
         show Sp.edgeErr ns es j = _
         rw [HEr.out, HPe.out, if_neg (by omega), if_neg (by omega), if_neg (by omega)]
         simp [y7]
       go_upto_region 17 with fail
       go_cut [100] (fun s wx => s = .bool (!Sp.lessE ⟨pa, pb, pk, pc⟩ ⟨na, nb, ek, ec⟩) ∧ Kept [] V wx)
       case first =>
         go_region_held3 (fun w' => SX0 V w') (exact kp0)
           (first | (go_at_call 106; ((with_reducible refine (lessEdge_any pa pb pk pc na nb ek ec _).mono ?_)); rintro e w3 ⟨rfl, hb3⟩; obtain ⟨hc3, hf3, hg3⟩ := bcell hb3; have hz3 := hb3.size; try simp at hz3))
         all_goals
           go_wp2_with fail
           go_meet
           refine ⟨rfl, ?_⟩
           (exact kpt0)
       case rest =>
         obtain ⟨rfl, hkc⟩ := hcut
         have hkwc : Kept [] W wc := keptTrans hkw hkc
         have hBc := hkwc.below hB hB.size (by simp)
         have BC := hkc.blk (by simp) Bg
         have ⟨LC, CC, FC⟩ := BC
         have BD := hkc.blk (by simp) BV
         have ⟨LD, CD, FD⟩ := BD
         have HNC := Lib.hid (HN.out.later hBc)
         have HEC := Lib.hid (HE.out.later hBc)
         clear CG FG CV FV q1 q2 q3 q4
         by_cases hles : Sp.lessE ⟨pa, pb, pk, pc⟩ ⟨na, nb, ek, ec⟩ = true
         · rw [hles]
           have HEz : Hid (Sp.edgeErr ns es j = (if Sp.fitsB ns es ⟨na, nb, ek, ec⟩ = false then 20 else 0)) := by
             show Sp.edgeErr ns es j = _
             rw [HEz.out, hles, if_neg (by simp)]
           clear hles
           go_wp2_with fail
           refine (fits_any _ _ _ _ _ _ _ na nb ek ec ns es _ HNC.out HEC.out (by omega) (by omega) (by omega) (by omega) (by intros; omega)).mono ?_
           rintro e w5 ⟨rfl, hb5⟩
           have hk5 : Kept [] W w5 := hkwc.call hb5
           have hB5 := hk5.below hB hB.size (by simp)
           by_cases hfi : Sp.fitsB ns es ⟨na, nb, ek, ec⟩ = true
           · rw [hfi]
             have hfin := Lib.hid (hstep.out (by rw [HEz.out, hfi]; rfl))
             clear hfi
             go_wp2_with fail
             exact ⟨⟨j + 1, by omega, by go_num, hk5, hfin⟩, by simp [intOf]; omega⟩
           · rw [Bool.not_eq_true] at hfi
             rw [hfi]
             have hE : Hid (Sp.superErr ns es mn = 20) := Lib.hid (hbad.out 20 (by rw [HEz.out, hfi]; rfl) (by omega))
             clear hfi
             go_wp2_with fail
             go_ret
             exact ⟨ret_int hE.out.symm, hB5⟩
         · rw [Bool.not_eq_true] at hles
           rw [hles]
           have hE : Hid (Sp.superErr ns es mn = 13) := Lib.hid (hbad.out 13 (by rw [HEz.out, hles]; rfl) (by omega))
           clear hles
           go_wp2_with fail
           go_ret
           exact ⟨ret_int hE.out.symm, hBc⟩
end Go.Proofs.YtooejoajojanjaaGreatDoor
namespace Go.Df
open Go.RowKit
namespace If
open Sp
structure Pr where
 i : Int
 o : Int
deriving DecidableEq
structure Sd where
 n : Int
 f : Int
deriving DecidableEq
def gp (l : List Pr) (i : Nat) : Pr := l.getD i ⟨0, 0⟩
def gd (l : List Sd) (i : Nat) : Sd := l.getD i ⟨0, 0⟩
def gf (ls : List (List Pr)) (i : Nat) : List Pr := ls.getD i []
theorem gp_lt {l : List Pr} {i : Nat} (h : i < l.length) : gp l i = l[i] := by simp [gp, h]
theorem gd_lt {l : List Sd} {i : Nat} (h : i < l.length) : gd l i = l[i] := by simp [gd, h]
theorem gp_mem {l : List Pr} {i : Nat} (h : i < l.length) : gp l i ∈ l := by rw [gp_lt h]; exact List.getElem_mem h
theorem gd_mem {l : List Sd} {i : Nat} (h : i < l.length) : gd l i ∈ l := by rw [gd_lt h]; exact List.getElem_mem h
theorem mem_gp {l : List Pr} {q : Pr} (h : q ∈ l) : ∃ i, i < l.length ∧ gp l i = q := by
 obtain ⟨i, hi, rfl⟩ := List.getElem_of_mem h
 exact ⟨i, hi, gp_lt hi⟩
theorem mem_gd {l : List Sd} {q : Sd} (h : q ∈ l) : ∃ i, i < l.length ∧ gd l i = q := by
 obtain ⟨i, hi, rfl⟩ := List.getElem_of_mem h
 exact ⟨i, hi, gd_lt hi⟩
def lessR (a b : Pr) : Bool := if a.i ≠ b.i then decide (a.i < b.i) else decide (a.o < b.o)
def lessD (a b : Sd) : Bool := if a.n ≠ b.n then decide (a.n < b.n) else decide (a.f < b.f)
theorem ordR_ge (a b : Pr) : decide (0 ≤ orL [cmpI a.i b.i, cmpI a.o b.o]) = !lessR a b := by
 unfold lessR
 rw [or_cmp, or_last]
 split <;> rfl
theorem ordD_ge (a b : Sd) : decide (0 ≤ orL [cmpI a.n b.n, cmpI a.f b.f]) = !lessD a b := by
 unfold lessD
 rw [or_cmp, or_last]
 split <;> rfl
def prErr (F : Int) (l : List Pr) (j : Nat) : Int :=
 if (gp l j).i < 0 ∨ F ≤ (gp l j).i ∨ (gp l j).o < 0 ∨ F ≤ (gp l j).o then 4 else if 0 < j ∧ lessR (gp l (j - 1)) (gp l j) = false then 13 else 0
def flErr (F : Int) (l : List Pr) : Int :=
 if F < 1 ∨ 1024 < F then 4 else if 8192 < l.length then 3 else if fe (prErr F l) 0 l.length ≠ 0 then fe (prErr F l) 0 l.length else if l.length = 0 ∨ gp l 0 ≠ ⟨0, 0⟩ then 1 else 0
def sdErr (N : Nat) (F : Int) (l : List Sd) (j : Nat) : Int :=
 if (gd l j).n < 0 ∨ (N : Int) ≤ (gd l j).n ∨ (gd l j).f < 1 ∨ F ≤ (gd l j).f then 4 else if 0 < j ∧ lessD (gd l (j - 1)) (gd l j) = false then 13 else 0
structure Pb where
 ns : List Nd
 es : List Ed
 mn : Int
 F : Int
 fl : List (List Pr)
 sd : List Sd
def pbErr (p : Pb) : Int :=
 if superErr p.ns p.es p.mn ≠ 0 then superErr p.ns p.es p.mn else if p.F < 1 ∨ 1024 < p.F then 4 else if p.fl.length ≠ p.es.length then 20
 else if fe (fun i => flErr p.F (gf p.fl i)) 0 p.fl.length ≠ 0 then fe (fun i => flErr p.F (gf p.fl i)) 0 p.fl.length else fe (sdErr p.ns.length p.F p.sd) 0 p.sd.length
theorem fl_hit {F : Int} {l : List Pr} {e : Int} {j : Nat} (h0 : 1 ≤ F) (h2 : F ≤ 1024) (h1 : l.length ≤ 8192) (h : ∀ x, x < j → prErr F l x = 0) (hj : j < l.length) (he : prErr F l j = e) (hn : e ≠ 0) : flErr F l = e := by
 unfold flErr
 rw [if_neg (by omega), if_neg (by omega), fe_hit h hj he hn, if_pos hn]
theorem fl_end {F : Int} {l : List Pr} (h0 : 1 ≤ F) (h2 : F ≤ 1024) (h1 : l.length ≤ 8192) (h : ∀ x, x < l.length → prErr F l x = 0) : flErr F l = if l.length = 0 ∨ gp l 0 ≠ ⟨0, 0⟩ then 1 else 0 := by
 unfold flErr
 rw [if_neg (by omega), if_neg (by omega), fe_ok l.length 0 (fun i _ hi => h i (by omega)), if_neg (by simp)]
theorem pb_flow {p : Pb} {e : Int} {j : Nat} (h1 : superErr p.ns p.es p.mn = 0) (h2 : ¬ (p.F < 1 ∨ 1024 < p.F)) (h3 : p.fl.length = p.es.length)
   (h : ∀ x, x < j → flErr p.F (gf p.fl x) = 0) (hj : j < p.fl.length) (he : flErr p.F (gf p.fl j) = e) (h0 : e ≠ 0) : pbErr p = e := by
 unfold pbErr
 rw [if_neg (not_not_intro h1), if_neg h2, if_neg (not_not_intro h3), fe_hit h hj he h0, if_pos h0]
theorem pb_seed {p : Pb} {e : Int} {j : Nat} (h1 : superErr p.ns p.es p.mn = 0) (h2 : ¬ (p.F < 1 ∨ 1024 < p.F)) (h3 : p.fl.length = p.es.length)
   (h4 : ∀ x, x < p.fl.length → flErr p.F (gf p.fl x) = 0) (h : ∀ x, x < j → sdErr p.ns.length p.F p.sd x = 0) (hj : j < p.sd.length) (he : sdErr p.ns.length p.F p.sd j = e) (h0 : e ≠ 0) : pbErr p = e := by
 unfold pbErr
 rw [if_neg (not_not_intro h1), if_neg h2, if_neg (not_not_intro h3), fe_ok p.fl.length 0 (fun i _ hi => h4 i (by omega)), if_neg (by simp), fe_hit h hj he h0]
theorem pb_ok {p : Pb} (h1 : superErr p.ns p.es p.mn = 0) (h2 : ¬ (p.F < 1 ∨ 1024 < p.F)) (h3 : p.fl.length = p.es.length)
   (h4 : ∀ x, x < p.fl.length → flErr p.F (gf p.fl x) = 0) (h : ∀ x, x < p.sd.length → sdErr p.ns.length p.F p.sd x = 0) : pbErr p = 0 := by
 unfold pbErr
 rw [if_neg (not_not_intro h1), if_neg h2, if_neg (not_not_intro h3), fe_ok p.fl.length 0 (fun i _ hi => h4 i (by omega)), if_neg (by simp), fe_ok p.sd.length 0 (fun i _ hi => h i (by omega))]
theorem lessR_trans {a b c : Pr} (h1 : lessR a b = true) (h2 : lessR b c = true) : lessR a c = true := by
 unfold lessR at *
 grind
theorem pr_asc {F : Int} {l : List Pr} (h : ∀ x, x < l.length → prErr F l x = 0) {i : Nat} : ∀ (d : Nat), i + d + 1 < l.length → lessR (gp l i) (gp l (i + d + 1)) = true := by
 have adj : ∀ j, j + 1 < l.length → lessR (gp l j) (gp l (j + 1)) = true := fun j hj => by
   have := h (j + 1) hj
   unfold prErr at this
   split at this
   · cases this
   · split at this
     · cases this
     · rename_i hv
       cases hh : lessR (gp l j) (gp l (j + 1)) with
       | true => rfl
       | false => exact absurd ⟨Nat.succ_pos _, hh⟩ hv
 intro d
 induction d with
 | zero => intro hi; exact adj i hi
 | succ d ih => intro hi; exact lessR_trans (ih (by omega)) (adj (i + d + 1) (by omega))
theorem pr_in {F : Int} {l : List Pr} {j : Nat} (h : prErr F l j = 0) : 0 ≤ (gp l j).i ∧ (gp l j).i < F ∧ 0 ≤ (gp l j).o ∧ (gp l j).o < F := by
 unfold prErr at h
 split at h
 · cases h
 · omega
theorem pr_first {F : Int} {l : List Pr} (h : ∀ x, x < l.length → prErr F l x = 0) {j : Nat} (hj : j < l.length) (he : gp l j = ⟨0, 0⟩) : gp l 0 = ⟨0, 0⟩ := by
 by_cases h0 : j = 0
 · subst h0; exact he
 · have h1 := pr_asc h (i := 0) (j - 1) (by omega)
   rw [show 0 + (j - 1) + 1 = j by omega, he] at h1
   have h2 := pr_in (h 0 (by omega))
   unfold lessR at h1
   dsimp only at h1
   split at h1
   · have := of_decide_eq_true h1; omega
   · have := of_decide_eq_true h1; omega
theorem pr_mono {F : Int} {l : List Pr} (h : ∀ x, x < l.length → prErr F l x = 0) {i j : Nat} (hij : i ≤ j) (hj : j < l.length) : (gp l i).i ≤ (gp l j).i := by
 by_cases e : i = j
 · rw [e]; exact Int.le_refl _
 · have h1 := pr_asc h (i := i) (j - i - 1) (by omega)
   rw [show i + (j - i - 1) + 1 = j by omega] at h1
   unfold lessR at h1
   split at h1
   · have := of_decide_eq_true h1; omega
   · omega
structure Ok (p : Pb) : Prop where
 sup : superErr p.ns p.es p.mn = 0
 f1 : 1 ≤ p.F
 f2 : p.F ≤ 1024
 len : p.fl.length = p.es.length
 fl : ∀ k, k < p.fl.length → (gf p.fl k).length ≤ 8192 ∧ (∀ j, j < (gf p.fl k).length → prErr p.F (gf p.fl k) j = 0) ∧ 0 < (gf p.fl k).length ∧ gp (gf p.fl k) 0 = ⟨0, 0⟩
 sd : ∀ j, j < p.sd.length → sdErr p.ns.length p.F p.sd j = 0
theorem ok_of {p : Pb} (h : pbErr p = 0) : Ok p := by
 unfold pbErr at h
 by_cases h1 : superErr p.ns p.es p.mn = 0
 case neg => rw [if_pos h1] at h; exact absurd h h1
 rw [if_neg (not_not_intro h1)] at h
 by_cases h2 : p.F < 1 ∨ 1024 < p.F
 · rw [if_pos h2] at h; cases h
 rw [if_neg h2] at h
 by_cases h3 : p.fl.length = p.es.length
 case neg => rw [if_pos h3] at h; cases h
 rw [if_neg (not_not_intro h3)] at h
 by_cases h4 : fe (fun i => flErr p.F (gf p.fl i)) 0 p.fl.length = 0
 case neg => rw [if_pos h4] at h; exact absurd h h4
 rw [if_neg (not_not_intro h4)] at h
 refine ⟨h1, by omega, by omega, h3, fun k hk => ?_, fun j hj => fe_zero _ _ h j (Nat.zero_le _) (by omega)⟩
 have h5 := fe_zero _ _ h4 k (Nat.zero_le _) (by omega)
 unfold flErr at h5
 rw [if_neg h2] at h5
 split at h5
 · cases h5
 · split at h5
   · rename_i h9; exact absurd h5 h9
   · rename_i h9
     split at h5
     · cases h5
     · rename_i h8
       exact ⟨by omega, fun j hj => fe_zero _ _ (Decidable.byContradiction h9) j (Nat.zero_le _) (by omega), by omega, Decidable.byContradiction fun h7 => h8 (.inr h7)⟩
theorem Ok.pair {p : Pb} (h : Ok p) {k : Nat} (hk : k < p.fl.length) {q : Pr} (hq : q ∈ gf p.fl k) : 0 ≤ q.i ∧ q.i < p.F ∧ 0 ≤ q.o ∧ q.o < p.F := by
 obtain ⟨j, hj, rfl⟩ := mem_gp hq
 exact pr_in ((h.fl k hk).2.1 j hj)
theorem Ok.seed {p : Pb} (h : Ok p) {s : Sd} (hs : s ∈ p.sd) : 0 ≤ s.n ∧ s.n < p.ns.length ∧ 1 ≤ s.f ∧ s.f < p.F := by
 obtain ⟨j, hj, rfl⟩ := mem_gd hs
 have := h.sd j hj
 unfold sdErr at this
 split at this
 · cases this
 · omega
theorem sup_parts {ns : List Nd} {es : List Ed} {m : Int} (h : superErr ns es m = 0) : ns.length ≤ 8192 ∧ es.length ≤ 32768 ∧ nodesErr ns m = 0 ∧ ∀ k, k < es.length → edgeErr ns es k = 0 := by
 unfold superErr at h
 split at h
 · cases h
 · split at h
   · rename_i h0; exact absurd h h0
   · rename_i h0
     exact ⟨by omega, by omega, Decidable.byContradiction h0, fun k hk => fe_zero _ _ h k (Nat.zero_le _) (by omega)⟩
theorem sup_edge {ns : List Nd} {es : List Ed} {m : Int} (h : superErr ns es m = 0) {k : Nat} (hk : k < es.length) :
   0 ≤ (ge es k).a ∧ (ge es k).a < ns.length ∧ 0 ≤ (ge es k).b ∧ (ge es k).b < ns.length ∧ 1 ≤ (ge es k).k ∧ (ge es k).k ≤ 5 ∧ ((ge es k).k ≠ 1 → (ge es k).k ≠ 5 → 0 ≤ (ge es k).c ∧ (ge es k).c < ns.length) ∧ fitsB ns es (ge es k) = true := by
 have := (sup_parts h).2.2.2 k hk
 unfold edgeErr at this
 split at this
 · cases this
 · split at this
   · cases this
   · split at this
     · cases this
     · split at this
       · cases this
       · split at this
         · cases this
         · rename_i h9
           refine ⟨by omega, by omega, by omega, by omega, by omega, by omega, fun h1 h2 => by omega, by simpa using h9⟩
inductive PE (p : Pb) : Nat → Nat → Nat → Prop
 | main : PE p 0 p.mn.toNat 0
 | seed {s : Sd} : PE p 0 s.n.toNat 0 → s ∈ p.sd → PE p 0 s.n.toNat s.f.toNat
 | flow {a k : Nat} {q : Pr} : k < p.es.length → ((ge p.es k).k = 1 ∨ (ge p.es k).k = 5) → q ∈ gf p.fl k → PE p a (ge p.es k).a.toNat q.i.toNat → PE p a (ge p.es k).b.toNat q.o.toNat
 | call {a k : Nat} {q : Pr} : k < p.es.length → (ge p.es k).k = 2 → q ∈ gf p.fl k → PE p a (ge p.es k).a.toNat q.i.toNat → PE p q.o.toNat (ge p.es k).b.toNat q.o.toNat
 | ret {a c r : Nat} {q s : Pr} : c < p.es.length → (ge p.es c).k = 2 → q ∈ gf p.fl c → r < p.es.length → ((ge p.es r).k = 3 ∨ (ge p.es r).k = 4) → s ∈ gf p.fl r → (ge p.es c).a = (ge p.es r).c →
     (gn p.ns (ge p.es c).b.toNat).f = (gn p.ns (ge p.es r).a.toNat).f → PE p a (ge p.es c).a.toNat q.i.toNat → PE p q.o.toNat (ge p.es r).a.toNat s.i.toNat → PE p a (ge p.es r).b.toNat s.o.toNat
theorem main_in {ns : List Nd} {m : Int} (h : nodesErr ns m = 0) : 0 ≤ m ∧ m < ns.length ∧ (gn ns m.toNat).k = 1 := by
 unfold nodesErr at h
 split at h
 · rename_i h0; exact absurd h h0
 · split at h
   · rename_i h0; exact absurd h h0
   · unfold mainErr at h
     split at h
     · cases h
     · omega
theorem PE.rng {p : Pb} (h : Ok p) {a n d : Nat} (hp : PE p a n d) : n < p.ns.length ∧ (a : Int) < p.F ∧ (d : Int) < p.F := by
 have f1 := h.f1
 have hm := main_in (sup_parts h.sup).2.2.1
 induction hp with
 | main => exact ⟨by omega, by omega, by omega⟩
 | seed _ hs ih => have := h.seed hs; exact ⟨by omega, by omega, by omega⟩
 | flow hk _ hq _ ih => have := h.pair (by rw [h.len]; exact hk) hq; have := sup_edge h.sup hk; exact ⟨by omega, by omega, by omega⟩
 | call hk _ hq _ ih => have := h.pair (by rw [h.len]; exact hk) hq; have := sup_edge h.sup hk; exact ⟨by omega, by omega, by omega⟩
 | ret hc _ _ hr _ hs _ _ _ _ ih1 ih2 => have := h.pair (by rw [h.len]; exact hr) hs; have := sup_edge h.sup hr; exact ⟨by omega, by omega, by omega⟩
end If
end Go.Df
namespace Go.Df
open Go.RowKit
namespace If
open Sp
structure Su where
 f : Int
 x : List Pr
 y : List Pr
deriving DecidableEq
def gS (L : List Su) (i : Nat) : Su := L.getD i ⟨0, [], []⟩
def fnErr (L : List Su) (i : Nat) : Int := if (gS L i).f < 0 ∨ 256 ≤ (gS L i).f then 4 else if 0 < i ∧ (gS L i).f ≤ (gS L (i - 1)).f then 13 else 0
def lsErr (F : Int) (l : List Pr) : Int := if 8192 < l.length then 3 else fe (prErr F l) 0 l.length
def suErr (F : Int) (L : List Su) (i : Nat) : Int := if fnErr L i ≠ 0 then fnErr L i else if lsErr F (gS L i).x ≠ 0 then lsErr F (gS L i).x else lsErr F (gS L i).y
def sumErr (F : Int) (L : List Su) : Int := if F < 1 ∨ 1024 < F then 4 else if 256 < L.length then 3 else fe (suErr F L) 0 L.length
abbrev Bs := List UInt8
def kwF : Bs := [102, 117, 110, 99]
def kwE : Bs := [101, 120, 105, 116]
def kwT : Bs := [116, 104, 114, 111, 119]
def ln1 (w : Bs) (a : Int) : Bs := w ++ 32 :: (Lib.itoa a ++ [10])
def ln2 (w : Bs) (p : Pr) : Bs := w ++ 32 :: (Lib.itoa p.i ++ 32 :: (Lib.itoa p.o ++ [10]))
def txS (u : Su) : Bs := ln1 kwF u.f ++ u.x.flatMap (ln2 kwE) ++ u.y.flatMap (ln2 kwT)
def txt (L : List Su) : Bs := L.flatMap txS
def isD (c : UInt8) : Bool := decide (48 ≤ c) && decide (c ≤ 57)
def valB (w : Bs) : Nat := w.foldl (fun n c => 10 * n + (c.toNat - 48)) 0
def numB (w : Bs) : Option Nat := if w = [] ∨ 9 < w.length ∨ (1 < w.length ∧ w.head? = some 48) ∨ w.all isD = false then none else some (valB w)
def splW : Bs → List Bs
 | [] => [[]]
 | c :: r => if c = 32 then [] :: splW r else match splW r with
   | [] => [[c]]
   | w :: ws => (c :: w) :: ws
def addX (L : List Su) (p : Pr) : List Su := L.dropLast ++ [⟨(gS L (L.length - 1)).f, (gS L (L.length - 1)).x ++ [p], (gS L (L.length - 1)).y⟩]
def addY (L : List Su) (p : Pr) : List Su := L.dropLast ++ [⟨(gS L (L.length - 1)).f, (gS L (L.length - 1)).x, (gS L (L.length - 1)).y ++ [p]⟩]
def linW (L : List Su) (ws : List Bs) : Int × List Su :=
 match ws with
 | [w0, w1] => match numB w1 with
   | some n => if w0 = kwF then (if sumErr 1024 (L ++ [⟨n, [], []⟩]) = 0 then (0, L ++ [⟨n, [], []⟩]) else (sumErr 1024 (L ++ [⟨n, [], []⟩]), [])) else (2, [])
   | none => (2, [])
 | [w0, w1, w2] => match numB w1, numB w2 with
   | some a, some b =>
     if L = [] then (2, [])
     else if w0 = kwT then (if sumErr 1024 (addY L ⟨a, b⟩) = 0 then (0, addY L ⟨a, b⟩) else (sumErr 1024 (addY L ⟨a, b⟩), []))
     else if w0 = kwE then (if (gS L (L.length - 1)).y ≠ [] then (13, []) else if sumErr 1024 (addX L ⟨a, b⟩) = 0 then (0, addX L ⟨a, b⟩) else (sumErr 1024 (addX L ⟨a, b⟩), []))
     else (2, [])
   | _, _ => (2, [])
 | _ => (2, [])
def linS (L : List Su) (s : Bs) : Int × List Su := linW L (splW s)
def cutN : Bs → Option (Bs × Bs)
 | [] => none
 | c :: r => if c = 10 then some ([], r) else (cutN r).map fun p => (c :: p.1, p.2)
def parR : Nat → Nat → List Su → Bs → List Su × Int × Int
 | 0, _, L, _ => (L, 0, 0)
 | k + 1, n, L, s => if s = [] then (L, 0, 0) else match cutN s with
   | none => ([], n, 21)
   | some (a, r) => if (linS L a).1 ≠ 0 then ([], n, (linS L a).1) else parR k (n + 1) (linS L a).2 r
def parS (s : Bs) : List Su × Int × Int := if 65536 < s.length then ([], 0, 3) else parR (s.length + 1) 1 [] s
def texS (L : List Su) : Bs × Int := if sumErr 1024 L ≠ 0 then ([], sumErr 1024 L) else if 65536 < (txt L).length then ([], 3) else (txt L, 0)
theorem cutN_len : ∀ {s a r : Bs}, cutN s = some (a, r) → s = a ++ 10 :: r
 | [], _, _, h => by cases h
 | c :: s, a, r, h => by
   unfold cutN at h
   split at h
   · rename_i hc
     cases h
     simp [hc]
   · cases hs : cutN s with
     | none => rw [hs] at h; cases h
     | some p =>
       rw [hs] at h
       obtain ⟨a', r'⟩ := p
       simp at h
       obtain ⟨rfl, rfl⟩ := h
       have := cutN_len hs
       simp [this]
theorem parR_fuel : ∀ (k j n : Nat) (L : List Su) (s : Bs), s.length < k → s.length < j → parR k n L s = parR j n L s
 | 0, _, _, _, _, h, _ => absurd h (by omega)
 | _, 0, _, _, _, _, h => absurd h (by omega)
 | k + 1, j + 1, n, L, s, hk, hj => by
   unfold parR
   split
   · rfl
   · cases hc : cutN s with
     | none => rfl
     | some p =>
       obtain ⟨a, r⟩ := p
       have hl := congrArg List.length (cutN_len hc)
       simp at hl
       dsimp only
       split
       · rfl
       · exact parR_fuel k j (n + 1) _ r (by omega) (by omega)
/-! ### Numbers -/
theorem val_snoc (w : Bs) (c : UInt8) : valB (w ++ [c]) = 10 * valB w + (c.toNat - 48) := by simp [valB]
theorem dec_len {u k : Nat} (h : u < 10 ^ (k + 1)) : (Lib.decDigits u).length ≤ k + 1 := by
 induction k generalizing u with
 | zero =>
   unfold Lib.decDigits
   rw [dif_pos (by simpa using h)]
   simp
 | succ k ih =>
   unfold Lib.decDigits
   split
   · simp
   · have h9 : u / 10 < 10 ^ (k + 1) := by
       rw [Nat.pow_succ] at h
       omega
     have := ih h9
     simp
     omega
theorem isD_ge {c : UInt8} (h : isD c = true) : 48 ≤ c.toNat ∧ c.toNat ≤ 57 := by
 unfold isD at h
 simp at h
 exact ⟨by have := h.1; exact UInt8.le_iff_toNat_le.1 this, by have := h.2; exact UInt8.le_iff_toNat_le.1 this⟩
theorem dig_back {c : UInt8} (h : isD c = true) : UInt8.ofNat (48 + (c.toNat - 48)) = c := by
 have h1 := isD_ge h
 have e : 48 + (c.toNat - 48) = c.toNat := by omega
 rw [e]
 simp
theorem dec_val : ∀ (w : Bs), w ≠ [] → w.all isD = true → (1 < w.length → w.head? ≠ some 48) → Lib.decDigits (valB w) = w := by
 intro w
 induction hn : w.length generalizing w with
 | zero => intro h _ _; exact absurd (List.length_eq_zero_iff.1 hn) h
 | succ n ih =>
   intro hne hall hh
   have hs : w = w.dropLast ++ [w.getLast hne] := (List.dropLast_concat_getLast hne).symm
   obtain ⟨v, c, rfl⟩ : ∃ v c, w = v ++ [c] := ⟨_, _, hs⟩
   have hall2 : v.all isD = true ∧ isD c = true := by simpa using hall
   have hc := isD_ge hall2.2
   rw [val_snoc]
   by_cases hv : v = []
   · subst hv
     unfold Lib.decDigits
     rw [dif_pos (by show 10 * 0 + _ < 10; omega)]
     show [UInt8.ofNat (48 + (10 * 0 + (c.toNat - 48)))] = _
     rw [Nat.mul_zero, Nat.zero_add, dig_back hall2.2]
     rfl
   · have hlv : v.length = n := by simpa using hn
     have hv1 : 0 < v.length := List.length_pos_iff.2 hv
     have hhv : (v ++ [c]).head? = v.head? := by cases v with | nil => exact absurd rfl hv | cons a v => rfl
     have h1 := hh (by simp; omega)
     rw [hhv] at h1
     have h2 := ih v hlv hv hall2.1 (fun _ => h1)
     have hpos : 0 < valB v := by
       rcases Nat.eq_zero_or_pos (valB v) with h0 | h0
       · rw [h0] at h2
         unfold Lib.decDigits at h2
         rw [dif_pos (by omega)] at h2
         rw [← h2] at h1
         exact absurd rfl h1
       · exact h0
     unfold Lib.decDigits
     rw [dif_neg (by omega), show (10 * valB v + (c.toNat - 48)) / 10 = valB v by omega, show (10 * valB v + (c.toNat - 48)) % 10 = c.toNat - 48 by omega, h2, dig_back hall2.2]
theorem num_some {w : Bs} {n : Nat} (h : numB w = some n) : Lib.decDigits n = w := by
 unfold numB at h
 split at h
 · cases h
 · rename_i h9
   have e := Option.some.inj h
   subst e
   exact dec_val w (fun e => h9 (.inl e)) (by
     cases ha : w.all isD with
     | true => rfl
     | false => exact absurd (.inr (.inr (.inr ha))) h9) (fun h1 h2 => h9 (.inr (.inr (.inl ⟨h1, h2⟩))))
theorem itoa_nat (n : Nat) : Lib.itoa (n : Int) = Lib.decDigits n := by
 unfold Lib.itoa
 rw [if_neg (by omega), Int.toNat_natCast]
end If
end Go.Df
namespace Go.Df
open Go.RowKit
namespace If
open Sp
theorem fe_iff {e : Nat → Int} {n : Nat} : fe e 0 n = 0 ↔ ∀ i, i < n → e i = 0 := ⟨fun h i hi => fe_zero n 0 h i (Nat.zero_le _) (by omega), fun h => fe_ok n 0 fun i _ hi => h i (by omega)⟩
theorem fe_last {e : Nat → Int} {n : Nat} (h : ∀ i, i < n → e i = 0) : fe e 0 (n + 1) = e n := by
 by_cases h0 : e n = 0
 · rw [h0]; exact fe_iff.2 fun i hi => by by_cases e : i = n; (· rw [e]; exact h0); exact h i (by omega)
 · exact fe_hit h (by omega) rfl h0
theorem ls_ok {F : Int} {l : List Pr} : lsErr F l = 0 ↔ l.length ≤ 8192 ∧ ∀ j, j < l.length → prErr F l j = 0 := by
 unfold lsErr
 split
 · rename_i h; exact ⟨fun h9 => (by cases h9), fun h9 => (by omega)⟩
 · rw [fe_iff]; exact ⟨fun h9 => ⟨by omega, h9⟩, fun h9 => h9.2⟩
theorem su_ok {F : Int} {L : List Su} {i : Nat} : suErr F L i = 0 ↔ fnErr L i = 0 ∧ lsErr F (gS L i).x = 0 ∧ lsErr F (gS L i).y = 0 := by
 unfold suErr
 by_cases h1 : fnErr L i = 0
 · rw [if_neg (not_not_intro h1)]
   by_cases h2 : lsErr F (gS L i).x = 0
   · rw [if_neg (not_not_intro h2)]; simp [h1, h2]
   · rw [if_pos h2]; simp [h2]
 · rw [if_pos h1]; simp [h1]
theorem sum_ok {F : Int} {L : List Su} : sumErr F L = 0 ↔ (1 ≤ F ∧ F ≤ 1024) ∧ L.length ≤ 256 ∧ ∀ i, i < L.length → fnErr L i = 0 ∧ lsErr F (gS L i).x = 0 ∧ lsErr F (gS L i).y = 0 := by
 unfold sumErr
 split
 · rename_i h; exact ⟨fun h9 => (by cases h9), fun h9 => (by omega)⟩
 · split
   · rename_i h; exact ⟨fun h9 => (by cases h9), fun h9 => (by omega)⟩
   · rw [fe_iff]
     exact ⟨fun h9 => ⟨by omega, by omega, fun i hi => su_ok.1 (h9 i hi)⟩, fun h9 i hi => su_ok.2 (h9.2.2 i hi)⟩
theorem gS_app {M R : List Su} {i : Nat} (h : i < M.length) : gS (M ++ R) i = gS M i := by
 unfold gS
 simp [List.getD, List.getElem?_append_left h]
theorem gS_at {M R : List Su} {u : Su} : gS (M ++ u :: R) M.length = u := by
 unfold gS
 simp [List.getD]
theorem gp_app {a b : List Pr} {j : Nat} (h : j < a.length) : gp (a ++ b) j = gp a j := by
 rw [gp_lt h, gp_lt (by simp; omega)]
 exact List.getElem_append_left h
theorem pr_app {F : Int} {a b : List Pr} {j : Nat} (h : j < a.length) : prErr F (a ++ b) j = prErr F a j := by
 unfold prErr
 rw [gp_app h, gp_app (show j - 1 < a.length by omega)]
theorem fn_app {M R : List Su} {i : Nat} (h : i < M.length) : fnErr (M ++ R) i = fnErr M i := by
 unfold fnErr
 rw [gS_app h, gS_app (show i - 1 < M.length by omega)]
theorem ls_rng {F : Int} {l : List Pr} (h : lsErr F l = 0) {p : Pr} (hp : p ∈ l) : (0 ≤ p.i ∧ p.i < F) ∧ 0 ≤ p.o ∧ p.o < F := by
 obtain ⟨j, hj, rfl⟩ := mem_gp hp
 have h9 := (ls_ok.1 h).2 j hj
 unfold prErr at h9
 split at h9
 · cases h9
 · omega
/-! ### Words -/
theorem spl_one : ∀ {w : Bs}, (∀ c ∈ w, c ≠ 32) → splW w = [w]
 | [], _ => rfl
 | c :: w, h => by
   have h1 : c ≠ 32 := h c (by simp)
   rw [splW, if_neg h1, spl_one (fun x hx => h x (List.mem_cons_of_mem _ hx))]
theorem spl_app : ∀ {w r : Bs}, (∀ c ∈ w, c ≠ 32) → splW (w ++ 32 :: r) = w :: splW r
 | [], r, _ => by simp [splW]
 | c :: w, r, h => by
   have h1 : c ≠ 32 := h c (by simp)
   rw [List.cons_append, splW, if_neg h1, spl_app (fun x hx => h x (List.mem_cons_of_mem _ hx))]
theorem spl_ne : ∀ (s : Bs), splW s ≠ []
 | [] => by simp [splW]
 | c :: s => by
   rw [splW]
   split
   · simp
   · split <;> simp
def joiW : List Bs → Bs
 | [] => []
 | [w] => w
 | w :: v :: ws => w ++ 32 :: joiW (v :: ws)
theorem joi_spl : ∀ (s : Bs), joiW (splW s) = s
 | [] => rfl
 | c :: s => by
   rw [splW]
   split
   · rename_i hc
     cases hs : splW s with
     | nil => exact absurd hs (spl_ne s)
     | cons w ws =>
       have := joi_spl s
       rw [hs] at this
       simp [joiW, this, hc]
   · cases hs : splW s with
     | nil => exact absurd hs (spl_ne s)
     | cons w ws =>
       have := joi_spl s
       rw [hs] at this
       cases ws with
       | nil => simpa [joiW] using this
       | cons v ws => simpa [joiW] using this
def bd1 (w : Bs) (a : Int) : Bs := w ++ 32 :: Lib.itoa a
def bd2 (w : Bs) (p : Pr) : Bs := w ++ 32 :: (Lib.itoa p.i ++ 32 :: Lib.itoa p.o)
theorem kw_ne : kwE ≠ kwT ∧ kwE ≠ kwF ∧ kwT ≠ kwF := by decide
theorem gS_last (M : List Su) (u : Su) : gS (M ++ [u]) ((M ++ [u]).length - 1) = u := by
 rw [List.length_append, List.length_singleton, Nat.add_sub_cancel]
 exact gS_at
/-! ### What is read is what was written -/
theorem txt_app (M L : List Su) : txt (M ++ L) = txt M ++ txt L := by simp [txt]
theorem lin_back {M M' : List Su} {s : Bs} (h : linS M s = (0, M')) : txt M' = txt M ++ (s ++ [10]) ∧ sumErr 1024 M' = 0 := by
 unfold linS at h
 have hj := joi_spl s
 generalize splW s = ws at h hj
 unfold linW at h
 split at h
 · rename_i w0 w1
   cases h1 : numB w1 with
   | none => rw [h1] at h; simp at h
   | some n =>
     rw [h1] at h
     dsimp only at h
     split at h
     · rename_i hw
       split at h
       · rename_i hs
         have e : M' = M ++ [⟨n, [], []⟩] := by simpa using (congrArg Prod.snd h).symm
         subst e
         refine ⟨?_, hs⟩
         rw [txt_app, ← hj]
         have : Lib.itoa (n : Int) = w1 := by rw [itoa_nat]; exact num_some h1
         simp [txt, txS, ln1, joiW, this, hw]
       · rename_i hs
         exact absurd (congrArg Prod.fst h) hs
     · simp at h
 · rename_i w0 w1 w2
   cases h1 : numB w1 with
   | none => rw [h1] at h; simp at h
   | some a =>
     cases h2 : numB w2 with
     | none => rw [h1, h2] at h; simp at h
     | some b =>
       rw [h1, h2] at h
       dsimp only at h
       have ea : Lib.itoa (a : Int) = w1 := by rw [itoa_nat]; exact num_some h1
       have eb : Lib.itoa (b : Int) = w2 := by rw [itoa_nat]; exact num_some h2
       split at h
       · simp at h
       · rename_i hM
         obtain ⟨K, u, rfl⟩ : ∃ K u, M = K ++ [u] := ⟨_, _, (List.dropLast_concat_getLast hM).symm⟩
         obtain ⟨f, x, y⟩ := u
         split at h
         · rename_i hw
           split at h
           · rename_i hs
             have e : M' = addY (K ++ [⟨f, x, y⟩]) ⟨a, b⟩ := by simpa using (congrArg Prod.snd h).symm
             subst e
             refine ⟨?_, hs⟩
             unfold addY
             rw [gS_last, List.dropLast_concat, txt_app, txt_app, ← hj]
             simp [txt, txS, ln2, joiW, ea, eb, hw]
           · rename_i hs
             exact absurd (congrArg Prod.fst h) hs
         · split at h
           · rename_i hw
             split at h
             · simp at h
             · rename_i hy
               split at h
               · rename_i hs
                 have e : M' = addX (K ++ [⟨f, x, y⟩]) ⟨a, b⟩ := by simpa using (congrArg Prod.snd h).symm
                 subst e
                 rw [gS_last] at hy
                 have hy : y = [] := by simpa using hy
                 subst hy
                 refine ⟨?_, hs⟩
                 unfold addX
                 rw [gS_last, List.dropLast_concat, txt_app, txt_app, ← hj]
                 simp [txt, txS, ln2, joiW, ea, eb, hw]
               · rename_i hs
                 exact absurd (congrArg Prod.fst h) hs
           · simp at h
 · simp at h
theorem sum_nil : sumErr 1024 [] = 0 := by decide
end If
end Go.Df
