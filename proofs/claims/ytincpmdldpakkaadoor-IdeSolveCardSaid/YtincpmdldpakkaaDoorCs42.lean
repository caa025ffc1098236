/- Texts: Hw Hs Hx Dg. -/
import Derived.Test.YtincpmdldpakkaaDoorCs41
import Derived.Test.YtincpmdldpakkaaDoorCs11
namespace Go.Proofs.YtincpmdldpakkaaDoor
open Go.RowKit Go.Df Go.Df.Iv Go.Df.Sp
attribute [local go_sem ↓] Go.wp_at_zero Go.wp_at_succ
theorem Lies.later {p : Vb} {A1 A2 A3 A4 : Option Addr} {n1 n2 n3 n4 : Nat} {w w' : World} (h : Lies p A1 A2 A3 A4 n1 n2 n3 n4 w) (hb : Below w.heap.size w w') : Lies p A1 A2 A3 A4 n1 n2 n3 n4 w' :=
  ⟨h.nd.later hb, h.ed.later hb, h.fl.later hb, h.sd.later hb, fun b o i A n c e hi hc => by
    obtain ⟨b3, o3, e3, hl, -⟩ := h.fl.2 (by omega)
    obtain ⟨rfl, rfl⟩ : b3 = b ∧ o3 = o := by
      have h9 := e3.symm.trans e
      injection h9 with h9
      injection h9 with e1 e2
      exact ⟨e1, e2⟩
    exact h.fc b3 o3 i A n c e hi ((hb.cell (p := ⟨b3, _, none⟩) hl).symm.trans hc), h.wn, h.we, h.fit, h.n4⟩
theorem solve_v1 (A1 A2 A3 : Option Addr) (c3 : Nat) (w : World) (h : Lies v1 A1 A2 A3 none 5 3 3 0 w) (hgv : Gv w) :
    Calls Tryd.prog 11 #[.agg #[.slice A1 5 5, .slice A2 3 3, .int .i64 0, .int .i64 2, .slice A3 3 c3, .slice none 0 0]] w fun e w' =>
      ∃ (go cc : Nat) (rw rc : Nat → Nat), e = .returned (.tuple #[.agg #[.slice (some ⟨go, 0, none⟩) 5 cc], .int .i64 0]) ∧ go < w'.heap.size ∧ (∀ n, n < 5 → rw n < w'.heap.size ∧ w'.cell? ⟨go, n, none⟩ = some (.slice (some ⟨rw n, 0, none⟩) 2 (rc n))) ∧
        w'.cell? ⟨rw 2, 2, none⟩ = some (.int .i64 1) ∧ w'.cell? ⟨rw 2, 3, none⟩ = some (.int .i64 7) ∧ w'.cell? ⟨rw 3, 0, none⟩ = some (.int .i64 2) ∧ w'.cell? ⟨rw 3, 2, none⟩ = some (.int .i64 0) ∧ w'.cell? ⟨rw 4, 0, none⟩ = some (.int .i64 0) ∧ Below w.heap.size w w' := by
  refine (psolve_any (p := v1) A1 A2 A3 none 5 5 3 3 3 c3 0 0 w h hgv (fun _ => mu_one)).mono ?_
  rintro e w' (⟨-, go, cc, rw, rc, S, rfl, V, I, B⟩ | ⟨h9, -⟩)
  · have e21 : (S 2 1).1 = ⟨1, 7⟩ := (congrArg (·.1) (v1_sol I (by omega) (by omega))).trans v1_21
    have e30 : (S 3 0).1 = ⟨2, 0⟩ := (congrArg (·.1) (v1_sol I (by omega) (by omega))).trans v1_30
    have e31 : (S 3 1).1 = ⟨0, 0⟩ := (congrArg (·.1) (v1_sol I (by omega) (by omega))).trans v1_31
    have e40 : (S 4 0).1 = ⟨0, 0⟩ := (congrArg (·.1) (v1_sol I (by omega) (by omega))).trans v1_40
    have c21 := V.cell 2 1 (by omega) (by show 1 < 2; omega)
    have c30 := V.cell 3 0 (by omega) (by show 0 < 2; omega)
    have c31 := V.cell 3 1 (by omega) (by show 1 < 2; omega)
    have c40 := V.cell 4 0 (by omega) (by show 0 < 2; omega)
    rw [e21] at c21
    rw [e30] at c30
    rw [e31] at c31
    rw [e40] at c40
    exact ⟨go, cc, rw, rc, rfl, V.glt, fun n hn => ⟨V.lt n hn, V.row n hn⟩, c21.1, c21.2, c30.1, c31.1, c40.1, B⟩
  · exact absurd v1_err h9
set_option maxRecDepth 100000 in
set_option maxHeartbeats 4000000 in
theorem knows33_any (w : World) (hgv : Gv w) : Calls Tryd.prog 9 #[] w fun e w' => e = .returned (.bool true) ∧ Below w.heap.size w w' := by
  have HGV := Lib.hid hgv
  clear hgv
  go_enter Tryd.func9, Tryd.ntmps9
  go_upto_region 2 with (first
    | (go_at_call 27; refine (one33_any _).mono ?_; rintro e w1 ⟨A1, A2, A3, c3, rfl, hG1, hF1, hC1, hb1⟩; have HL1 := Lib.hid (lies_one hG1 hF1 hC1); clear hG1 hF1 hC1)
    | (go_at_call 11; refine (solve_v1 A1 A2 A3 c3 _ HL1.out (HGV.out.later hb1)).mono ?_; rintro e w2 ⟨go, cc, rw, rc, rfl, hgo, hrow, k1, k2, k3, k4, k5, hb2⟩))
  refine wp_named (fun V => ∃ g, w2.heap.size = g ∧ Blk V g [.slice (some ⟨go, 0, none⟩) 5 cc] ∧ Kept [] w2 V) ⟨_, rfl, Blk.new _ _ _ _ rfl, (Kept.refl _ _).alloc _⟩ ?_
  rintro V ⟨g, eg, Bg, hkV⟩
  rw [eg]
  have ⟨LG, CG, FG⟩ := Bg
  have hwV : Kept [] w V := ((((Kept.refl [] w).call hb1).call hb2).next hkV (by simp))
  have hcell : ∀ b i v, b < w2.heap.size → w2.cell? ⟨b, i, none⟩ = some v → V.cell? ⟨b, i, none⟩ = some v := fun b i v hl h => (hkV.cell b i hl (by simp)).trans h
  have r2 := hcell go 2 _ hgo (hrow 2 (by omega)).2
  have r3 := hcell go 3 _ hgo (hrow 3 (by omega)).2
  have r4 := hcell go 4 _ hgo (hrow 4 (by omega)).2
  have k1 := hcell _ _ _ (hrow 2 (by omega)).1 k1
  have k2 := hcell _ _ _ (hrow 2 (by omega)).1 k2
  have k3 := hcell _ _ _ (hrow 3 (by omega)).1 k3
  have k4 := hcell _ _ _ (hrow 3 (by omega)).1 k4
  have k5 := hcell _ _ _ (hrow 4 (by omega)).1 k5
  clear hrow hgo eg hcell HL1
  go_wp2_with fail
  go_ret
  exact ⟨rfl, hwV.toBelow⟩
end Go.Proofs.YtincpmdldpakkaaDoor
namespace Go.Df
open Go.RowKit
theorem Fls.row {w0 w : World} {A : Option Addr} {n : Nat} {ls : List (List Sp.Xp)} (h : Fls w0 A n ls) (hb : Below w0.heap.size w0 w) {j : Nat} (hj : j < n) :
    ∃ b o Ai ni ci, A = some ⟨b, o, none⟩ ∧ b < w0.heap.size ∧ w.cell? ⟨b, o + j, none⟩ = some (.slice Ai ni ci) ∧ Xps w0 Ai ni (Sp.gl ls j) := by
  obtain ⟨b, o, rfl, hl, hc⟩ := h.2 (by omega)
  obtain ⟨Ai, ni, ci, h1, h2⟩ := hc j hj
  exact ⟨b, o, Ai, ni, ci, rfl, hl, (hb.cell (p := ⟨b, _, none⟩) hl).trans h1, h2⟩
end Go.Df
namespace Go.Proofs.YtincpmdldpakkaaDoor
open Go.RowKit Go.Df Go.Df.Sp
attribute [local go_sem ↓] Go.wp_at_zero Go.wp_at_succ
set_option maxRecDepth 100000 in
set_option maxHeartbeats 4000000 in
theorem small33_any (A1 A2 A3 A4 : Option Addr) (n1 c1 n2 c2 n3 c3 n4 c4 : Nat) (mn F : Int) (ls : List (List Sp.Xp)) (w : World) (hf : Fls w A3 n3 ls) :
    Calls Tryd.prog 10 #[.agg #[.slice A1 n1 c1, .slice A2 n2 c2, .int .i64 mn, .int .i64 F, .slice A3 n3 c3, .slice A4 n4 c4]] w fun e w' => ∃ s, e = .returned (.bool s) ∧ (s = true → n1 ≤ 36 ∧ n3 ≤ 70 ∧ n4 ≤ 20 ∧ F ≤ 6) ∧ Below w.heap.size w w' := by
  have HF := Lib.hid hf
  clear hf
  go_enter Tryd.func10, Tryd.ntmps10
  go_upto_region 1 with fail
  refine wp_named (fun W => ∃ b0, w.heap.size = b0 ∧ Blk W b0 [.slice A1 n1 c1, .slice A2 n2 c2, .int .i64 mn, .int .i64 F, .slice A3 n3 c3, .slice A4 n4 c4] ∧ Below w.heap.size w W) ⟨_, rfl, ?_, ?_⟩ ?_
  · exact Blk.new _ _ _ _ (by first | rfl | simp)
  · go_grown
  rintro W ⟨b0, e0, B0, hB⟩
  rw [e0]
  have G0 : w.heap.size ≤ b0 := by omega
  clear e0
  have ⟨L0, C0, F0⟩ := B0
  have hkW : Kept [] w W := (Kept.refl _ _).call hB
  by_cases t1 : 36 < n1
  · have d1 : decide ((36 : Int) < n1) = true := by simp; omega
    go_wp2_with fail
    go_ret
    first | exact ⟨false, rfl, (fun h => by cases h), hB⟩ | exact Or.inl ⟨rfl, hB⟩
  have d1 : decide ((36 : Int) < n1) = false := by simp; omega
  by_cases t2 : 70 < n2
  · have d2 : decide ((70 : Int) < n2) = true := by simp; omega
    go_wp2_with fail
    go_ret
    first | exact ⟨false, rfl, (fun h => by cases h), hB⟩ | exact Or.inl ⟨rfl, hB⟩
  have d2 : decide ((70 : Int) < n2) = false := by simp; omega
  by_cases t3 : 6 < F
  · have d3 : decide (6 < F) = true := by simpa using t3
    go_wp2_with fail
    go_ret
    first | exact ⟨false, rfl, (fun h => by cases h), hB⟩ | exact Or.inl ⟨rfl, hB⟩
  have d3 : decide (6 < F) = false := by simpa using t3
  by_cases t4 : 70 < n3
  · have d4 : decide ((70 : Int) < n3) = true := by simp; omega
    go_wp2_with fail
    go_ret
    first | exact ⟨false, rfl, (fun h => by cases h), hB⟩ | exact Or.inl ⟨rfl, hB⟩
  have d4 : decide ((70 : Int) < n3) = false := by simp; omega
  by_cases t5 : 20 < n4
  · have d5 : decide ((20 : Int) < n4) = true := by simp; omega
    go_wp2_with fail
    go_ret
    first | exact ⟨false, rfl, (fun h => by cases h), hB⟩ | exact Or.inl ⟨rfl, hB⟩
  have d5 : decide ((20 : Int) < n4) = false := by simp; omega
  go_wp2_with fail
  go_loopw [3] (fun i wr => ∃ j : Nat, j ≤ n3 ∧ i = .int .i64 j ∧ Kept [] W wr) (fun i _ => n3 - (intOf i).toNat)
  case atStart => exact ⟨0, Nat.zero_le _, rfl, Kept.refl _ _⟩
  case round =>
    obtain ⟨j, hj, rfl, hkr⟩ := hrel
    have ⟨LR, CR, FR⟩ := hkr.blk (by simp) B0
    have hkwr : Kept [] w wr := keptTrans hkW hkr
    clear C0 F0
    by_cases hlt : j < n3
    · obtain ⟨b3, o3, Ai, ni, ci, rfl, hl3, hc3, -⟩ := HF.out.row hkwr.toBelow hlt
      have hl3r : b3 < wr.heap.size := Nat.lt_of_lt_of_le hl3 hkwr.size
      have hj1 : (j : Int) < (n3 : Int) := by omega
      by_cases t6 : 24 < ni
      · have d6 : decide ((24 : Int) < ni) = true := by simp; omega
        go_wp2_with fail
        go_ret
        exact ⟨false, rfl, (fun h => by cases h), hkwr.toBelow⟩
      · have d6 : decide ((24 : Int) < ni) = false := by simp; omega
        go_wp2_with fail
        exact ⟨⟨j + 1, by omega, by go_num, hkr⟩, by simp [intOf]; omega⟩
    · obtain rfl : j = n3 := by omega
      go_wp2_with fail
      go_ret
      exact ⟨true, rfl, fun _ => ⟨by omega, by omega, by omega, by omega⟩, hkwr.toBelow⟩
end Go.Proofs.YtincpmdldpakkaaDoor
namespace Go.Proofs.YtincpmdldpakkaaDoor
open Go.RowKit Go.Df Go.Df.Iv Go.Df.Sp
attribute [local go_sem ↓] Go.wp_at_zero Go.wp_at_succ
set_option maxRecDepth 100000 in
set_option maxHeartbeats 4000000 in
theorem ideCheck_any {q : Vb} (A1 A2 A3 A4 : Option Addr) (n1 c1 n2 c2 n3 c3 n4 c4 : Nat) (w : World) (hG : Gr w A1 n1 A2 n2 q.ns q.es) (hF : Fls w A3 n3 q.fl) (hS : Vss w A4 n4 q.sd) (hn4 : n4 ≤ 9223372036854775807) (hgv : Gv w) :
    Calls Tryd.prog 3 #[.agg #[.slice A1 n1 c1, .slice A2 n2 c2, .int .i64 q.mn, .int .i64 q.F, .slice A3 n3 c3, .slice A4 n4 c4]] w fun e w' => e = .returned (.bool true) ∧ Below w.heap.size w w' := by
  have HG := Lib.hid hG
  have HF := Lib.hid hF
  have HS := Lib.hid hS
  have HGV := Lib.hid hgv
  obtain ⟨pe, hpe⟩ : ∃ pe, Sp.ideErr q.ns q.es q.mn q.F q.fl q.sd = pe := ⟨_, rfl⟩
  have HP := Lib.hid hpe
  clear hG hF hS hpe hgv
  go_enter Tryd.func3, Tryd.ntmps3
  go_upto_region 1 with fail
  refine wp_named (fun W => ∃ b0, w.heap.size = b0 ∧ Blk W b0 [.slice A1 n1 c1, .slice A2 n2 c2, .int .i64 q.mn, .int .i64 q.F, .slice A3 n3 c3, .slice A4 n4 c4] ∧ Below w.heap.size w W) ⟨_, rfl, ?_, ?_⟩ ?_
  · exact Blk.new _ _ _ _ (by first | rfl | simp)
  · go_grown
  rintro W ⟨b0, e0, B0, hB⟩
  rw [e0]
  have G0 : w.heap.size ≤ b0 := by omega
  clear e0
  have ⟨L0, C0, F0⟩ := B0
  have HGW := Lib.hid (HG.out.later hB)
  have HFW := Lib.hid (HF.out.later hB)
  have HSW := Lib.hid (HS.out.later hB)
  have HVW := Lib.hid (HGV.out.later hB)
  refine wp_region_E 8 (fun w' => SX0 W w') (by kernel_rfl) (by (exact kp0)) (fun hHeld => ?_)
  refine WE_tk 0 ?_
  refine WE_tk 2 ?_
  refine WE_step 1 rfl (by kernel_rfl) (fun K hK => ?_)
  go_simp
  (first | (go_at_call 7; refine (ideck_any A1 A2 A3 A4 n1 c1 n2 c2 n3 c3 n4 c4 q.mn q.F q.ns q.es q.fl q.sd _ (HGW.out.kept (Kept.refl [] _).drew).nd (HGW.out.kept (Kept.refl [] _).drew).ed (HFW.out.later (Kept.refl [] _).drew.toBelow) (HSW.out.later (Kept.refl [] _).drew.toBelow) hn4 HGW.out.wn HGW.out.we (HVW.out.later (Kept.refl [] _).drew.toBelow)).mono ?_; rw [HP.out]; rintro e w3 ⟨rfl, hb3⟩; have HK3 := Lib.hid (((Kept.refl [] W).drew).call hb3)) | (go_at_call 8; refine (rideck_any A1 A2 A3 A4 n1 c1 n2 c2 n3 c3 n4 c4 q.mn q.F q.ns q.es q.fl q.sd _ (HGW.out.kept HK3.out).nd (HGW.out.kept HK3.out).ed (HFW.out.later HK3.out.toBelow) (HSW.out.later HK3.out.toBelow) hn4).mono ?_; rw [HP.out]; rintro e w4 ⟨rfl, hb4⟩; have HK4 := Lib.hid (HK3.out.call hb4)) | (go_at_call 9; refine (knows33_any _ (HVW.out.later HK4.out.toBelow)).mono ?_; rintro e w5 ⟨rfl, hb5⟩; have HK5 := Lib.hid (HK4.out.call hb5)))
  (try go_wp2_with fail)
  refine hK.out _ _ ?_ (fun hHeld => ?_)
  · (exact kp0)
  clear hK K
  try simp only [Act.put, List.setIfInBounds_toArray, List.set_cons_zero, List.set_cons_succ]
  refine WE_step 3 rfl (by kernel_rfl) (fun K hK => ?_)
  go_simp
  (first | (go_at_call 7; refine (ideck_any A1 A2 A3 A4 n1 c1 n2 c2 n3 c3 n4 c4 q.mn q.F q.ns q.es q.fl q.sd _ (HGW.out.kept (Kept.refl [] _).drew).nd (HGW.out.kept (Kept.refl [] _).drew).ed (HFW.out.later (Kept.refl [] _).drew.toBelow) (HSW.out.later (Kept.refl [] _).drew.toBelow) hn4 HGW.out.wn HGW.out.we (HVW.out.later (Kept.refl [] _).drew.toBelow)).mono ?_; rw [HP.out]; rintro e w3 ⟨rfl, hb3⟩; have HK3 := Lib.hid (((Kept.refl [] W).drew).call hb3)) | (go_at_call 8; refine (rideck_any A1 A2 A3 A4 n1 c1 n2 c2 n3 c3 n4 c4 q.mn q.F q.ns q.es q.fl q.sd _ (HGW.out.kept HK3.out).nd (HGW.out.kept HK3.out).ed (HFW.out.later HK3.out.toBelow) (HSW.out.later HK3.out.toBelow) hn4).mono ?_; rw [HP.out]; rintro e w4 ⟨rfl, hb4⟩; have HK4 := Lib.hid (HK3.out.call hb4)) | (go_at_call 9; refine (knows33_any _ (HVW.out.later HK4.out.toBelow)).mono ?_; rintro e w5 ⟨rfl, hb5⟩; have HK5 := Lib.hid (HK4.out.call hb5)))
  (try go_wp2_with fail)
  refine hK.out _ _ ?_ (fun hHeld => ?_)
  · (exact kp0)
  clear hK K
  try simp only [Act.put, List.setIfInBounds_toArray, List.set_cons_zero, List.set_cons_succ]
  refine WE_tk 4 ?_
  refine WE_tk 5 ?_
  refine WE_step 6 rfl (by kernel_rfl) (fun K hK => ?_)
  go_simp
  (first | (go_at_call 7; refine (ideck_any A1 A2 A3 A4 n1 c1 n2 c2 n3 c3 n4 c4 q.mn q.F q.ns q.es q.fl q.sd _ (HGW.out.kept (Kept.refl [] _).drew).nd (HGW.out.kept (Kept.refl [] _).drew).ed (HFW.out.later (Kept.refl [] _).drew.toBelow) (HSW.out.later (Kept.refl [] _).drew.toBelow) hn4 HGW.out.wn HGW.out.we (HVW.out.later (Kept.refl [] _).drew.toBelow)).mono ?_; rw [HP.out]; rintro e w3 ⟨rfl, hb3⟩; have HK3 := Lib.hid (((Kept.refl [] W).drew).call hb3)) | (go_at_call 8; refine (rideck_any A1 A2 A3 A4 n1 c1 n2 c2 n3 c3 n4 c4 q.mn q.F q.ns q.es q.fl q.sd _ (HGW.out.kept HK3.out).nd (HGW.out.kept HK3.out).ed (HFW.out.later HK3.out.toBelow) (HSW.out.later HK3.out.toBelow) hn4).mono ?_; rw [HP.out]; rintro e w4 ⟨rfl, hb4⟩; have HK4 := Lib.hid (HK3.out.call hb4)) | (go_at_call 9; refine (knows33_any _ (HVW.out.later HK4.out.toBelow)).mono ?_; rintro e w5 ⟨rfl, hb5⟩; have HK5 := Lib.hid (HK4.out.call hb5)))
  (try go_wp2_with fail)
  refine hK.out _ _ ?_ (fun hHeld => ?_)
  · (exact kp0)
  clear hK K
  try simp only [Act.put, List.setIfInBounds_toArray, List.set_cons_zero, List.set_cons_succ]
  refine WE_tk 7 ?_
  refine WE_last rfl (by kernel_rfl) (fun K hK => ?_)
  go_simp
  refine hK.out _ _ ?_
  clear hK K
  go_wp2_with fail
  go_ret
  exact ⟨rfl, Kept.below hB hB.size (by simp) HK5.out⟩
theorem GetA.form {p : Vb} {N : Nat} {pe : Int} {w w' : World} {e : Ending} (h : GetA p N pe w e w') : (∃ A n c, e = .returned (.tuple #[.agg #[.slice A n c], .int .i64 pe])) ∧ Below w.heap.size w w' := by
  rcases h with ⟨h0, go1, c1, rw1, rc1, S1, rfl, V1, I1, B1⟩ | ⟨h0, rfl, B1⟩
  · subst h0
    exact ⟨⟨_, _, _, rfl⟩, B1⟩
  · exact ⟨⟨_, _, _, rfl⟩, B1⟩
theorem GetA.same {p : Vb} {N : Nat} {pe : Int} {w w2 V w3 w9 : World} {S1 T1 : Option Addr} {m1 d1 m2 d2 : Nat} (h1 : GetA p N pe w (.returned (.tuple #[.agg #[.slice S1 m1 d1], .int .i64 pe])) w2) (h3 : GetA p N pe V (.returned (.tuple #[.agg #[.slice T1 m2 d2], .int .i64 pe])) w3) (hk : Kept [] w2 V) (hN : N = p.ns.length) (hN8 : N ≤ 8192) (hF : p.F ≤ 1024) (h9 : Kept [] w3 w9) :
    Calls Tryd.prog 13 #[.agg #[.slice S1 m1 d1], .agg #[.slice T1 m2 d2]] w9 fun e w' => e = .returned (.bool true) ∧ Below w9.heap.size w9 w' := by
  rcases h1 with ⟨h0, go1, c1, rw1, rc1, R1, e1, V1, I1, B1⟩ | ⟨h0, e1, B1⟩
  · rcases h3 with ⟨_, go2, c2, rw2, rc2, R2, e2, V2, I2, B2⟩ | ⟨h9, _⟩
    · subst h0
      have e1 : S1 = some ⟨go1, 0, none⟩ ∧ m1 = N ∧ d1 = c1 := by simpa using e1
      have e2 : T1 = some ⟨go2, 0, none⟩ ∧ m2 = N ∧ d2 = c2 := by simpa using e2
      obtain ⟨rfl, rfl, rfl⟩ := e1
      obtain ⟨rfl, rfl, rfl⟩ := e2
      have hk2 : Kept [] V w3 := (Kept.refl _ _).call B2
      exact rsamev_eq w9 (V1.keep (keptTrans (keptTrans hk hk2) h9)) (V2.keep h9) (fun n d hn hd => I1.eq I2 (by omega) hd) hN8 (by omega)
    · exact absurd h0 h9
  · rcases h3 with ⟨h9, _⟩ | ⟨_, e2, B2⟩
    · exact absurd h9 h0
    · have e1 : S1 = none ∧ m1 = 0 ∧ d1 = 0 := by simpa using e1
      have e2 : T1 = none ∧ m2 = 0 ∧ d2 = 0 := by simpa using e2
      obtain ⟨rfl, rfl, rfl⟩ := e1
      obtain ⟨rfl, rfl, rfl⟩ := e2
      exact rsamev_nil w9
set_option maxRecDepth 100000 in
set_option maxHeartbeats 4000000 in
theorem ideSolve_any {q : Vb} (A1 A2 A3 A4 : Option Addr) (n1 c1 n2 c2 n3 c3 n4 c4 : Nat) (w : World) (hF : Fls w A3 n3 q.fl) (hL : n4 ≤ 1000000 → Lies q A1 A2 A3 A4 n1 n2 n3 n4 w) (hgv : Gv w) :
    Calls Tryd.prog 4 #[.agg #[.slice A1 n1 c1, .slice A2 n2 c2, .int .i64 q.mn, .int .i64 q.F, .slice A3 n3 c3, .slice A4 n4 c4]] w fun e w' => e = .returned (.bool true) ∧ Below w.heap.size w w' := by
  have HF := Lib.hid hF
  have HL := Lib.hid hL
  have HGV := Lib.hid hgv
  obtain ⟨pe, hpe⟩ : ∃ pe, vErr q = pe := ⟨_, rfl⟩
  have HPE := Lib.hid hpe
  clear hF hL hpe hgv
  go_enter Tryd.func4, Tryd.ntmps4
  go_upto_region 1 with fail
  refine wp_named (fun W => ∃ b0, w.heap.size = b0 ∧ Blk W b0 [.slice A1 n1 c1, .slice A2 n2 c2, .int .i64 q.mn, .int .i64 q.F, .slice A3 n3 c3, .slice A4 n4 c4] ∧ Below w.heap.size w W) ⟨_, rfl, ?_, ?_⟩ ?_
  · exact Blk.new _ _ _ _ (by first | rfl | simp)
  · go_grown
  rintro W ⟨b0, e0, B0, hB⟩
  rw [e0]
  have G0 : w.heap.size ≤ b0 := by omega
  clear e0
  have ⟨L0, C0, F0⟩ := B0
  go_wp2_with fail
  refine (small33_any A1 A2 A3 A4 n1 c1 n2 c2 n3 c3 n4 c4 q.mn q.F q.fl _ (HF.out.later hB)).mono ?_
  rintro e w1 ⟨b, rfl, hsm, hb1⟩
  have hk1 : Kept [] W w1 := (Kept.refl _ _).call hb1
  have B01 := hk1.blk (by simp) B0
  have ⟨L01, C01, F01⟩ := B01
  have hB1 : Below w.heap.size w w1 := hk1.below hB hB.size (by simp)
  clear C0 F0
  cases b with
  | false =>
    go_wp2_with fail
    go_ret
    exact ⟨rfl, hB1⟩
  | true =>
  have HSM := Lib.hid (hsm rfl)
  have HLL : Hid (Lies q A1 A2 A3 A4 n1 n2 n3 n4 w) := HL.out (by have := HSM.out; omega)
  have HL1 := Lib.hid (HLL.out.later hB1)
  have HMU : Hid (mu0 q ≤ 1000000) := mu_small (by have := HSM.out; have := HLL.out.nd.1; omega) (by have := HSM.out; omega)
  have HN : Hid (n1 = q.ns.length ∧ n1 ≤ 8192 ∧ q.F ≤ 1024) := by
    have h1 := HSM.out
    have h2 := HLL.out.nd.1
    refine ⟨?_, ?_, ?_⟩ <;> omega
  have hz1 : (pe == pe) = true := by simp
  clear hsm
  go_upto_region 4 with (go_at_call 11; refine (psolve_any A1 A2 A3 A4 n1 c1 n2 c2 n3 c3 n4 c4 _ HL1.out (HGV.out.later hB1) (fun _ => HMU.out)).mono ?_; rw [HPE.out]; rintro e w2 h2; obtain ⟨⟨S1, m1, d1, rfl⟩, hb2⟩ := h2.form; have H2 := Lib.hid h2; clear h2)
  refine wp_named (fun V => ∃ g, w2.heap.size = g ∧ Blk V g [.slice S1 m1 d1] ∧ Kept [] w2 V) ⟨_, rfl, Blk.new _ _ _ _ rfl, (Kept.refl _ _).alloc _⟩ ?_
  rintro V ⟨g, eg, Bg, hkV⟩
  rw [eg]
  have hk1V : Kept [] w1 V := ((Kept.refl [] w1).call hb2).next hkV (by simp)
  have ⟨L0V, C0V, F0V⟩ := hk1V.blk (by simp) B01
  have hBV : Below w.heap.size w V := hk1V.below hB1 hB1.size (by simp)
  have HLV := Lib.hid (HLL.out.later hBV)
  clear C01 F01 eg
  go_upto_region 5 with (go_at_call 12; refine (rsolve33_any A1 A2 A3 A4 n1 c1 n2 c2 n3 c3 n4 c4 _ HLV.out).mono ?_; rw [HPE.out]; rintro e w3 h3; obtain ⟨⟨T1, m2, d2, rfl⟩, hb3⟩ := h3.form; have H3 := Lib.hid h3; clear h3)
  refine wp_named (fun V2 => ∃ g2, w3.heap.size = g2 ∧ Blk V2 g2 [.slice T1 m2 d2] ∧ Kept [] w3 V2) ⟨_, rfl, Blk.new _ _ _ _ rfl, (Kept.refl _ _).alloc _⟩ ?_
  rintro V2 ⟨g2, eg2, Bg2, hkV2⟩
  rw [eg2]
  have hkV3 : Kept [] V V2 := ((Kept.refl [] V).call hb3).next hkV2 (by simp)
  have ⟨LGV, CGV, FGV⟩ := hkV3.blk (by simp) Bg
  have ⟨LG2, CG2, FG2⟩ := Bg2
  have hBV2 : Below w.heap.size w V2 := hkV3.below hBV hBV.size (by simp)
  have HGV2 := Lib.hid (HGV.out.later hBV2)
  have HSAME : Hid (∀ w9, Kept [] V2 w9 → Calls Tryd.prog 13 #[.agg #[.slice S1 m1 d1], .agg #[.slice T1 m2 d2]] w9 fun e w' => e = .returned (.bool true) ∧ Below w9.heap.size w9 w') := by
    intro w9 h9
    exact GetA.same H2.out H3.out hkV HN.out.1 HN.out.2.1 HN.out.2.2 (keptTrans hkV2 h9)
  clear C0V F0V eg2
  go_wp2_with (first
    | (go_at_call 13; refine (HSAME.out _ (Kept.refl [] _)).mono ?_; rintro e w4 ⟨rfl, hb4⟩)
    | (go_at_call 9; refine (knows33_any _ (HGV2.out.later hb4)).mono ?_; rintro e w5 ⟨rfl, hb5⟩))
  go_ret
  exact ⟨rfl, (((Kept.refl [] V2).call hb4).call hb5).below hBV2 hBV2.size (by simp)⟩
end Go.Proofs.YtincpmdldpakkaaDoor
namespace Go.Df
open Go.RowKit Go.ChangeShapes Go.WideShapes
section
variable {H : Type} {enc : TypeId × Value → H} {P : Program} {w : World} {base : Nat} {held : Bool}
theorem addr_add_add (a : Addr) (x y : Nat) : (a.add x).add y = a.add (x + y) := by
  by_cases hx : x = 0 <;> by_cases hy : y = 0 <;> simp [Addr.add, hx, hy, Nat.add_assoc]
theorem open_rowsI {t e : TypeId} {k fuel : Nat} {v : Value} {x : DataW H × List MemPlace} (ht : P.underlying t = some (.slice e)) (hC : P.cellsOf e = k) (hk : 0 < k)
    (hel : ∀ n cs' y, DataW.trod enc P w base (fun _ => true) held n e cs' = some y → ∃ zs : List Int, cs' = zs.map (Value.int .i64) ∧ ∀ q, q < k → (Lit.int .i64 (gi zs q)).wf = true)
    (h : DataW.trod enc P w base (fun _ => true) held fuel t [v] = some x) :
    ∃ A n c, ∃ g : Nat → Nat → Int, v = .slice A n c ∧ n ≤ c ∧ (0 < n → ∃ b o, A = some ⟨b, o, none⟩ ∧ b < w.heap.size ∧ ∀ i, i < n → ∀ q, q < k → w.cell? ⟨b, o + i * k + q, none⟩ = some (.int .i64 (g i q))) ∧ ∀ i, i < n → ∀ q, q < k → (Lit.int .i64 (g i q)).wf = true := by
  rcases Go.Deep.open_slice ht h with ⟨h0, _⟩ | ⟨a, len, cap, m, n, D, Pl, hcs, hbb, hl, hm, hmm, hx, hi⟩
  · injection h0 with h0
    exact ⟨none, 0, 0, fun _ _ => 0, h0, Nat.le_refl _, fun h => absurd h (by omega), fun i hi => absurd hi (by omega)⟩
  · injection hcs with hcs
    subst hcs
    have hread : ∀ i, i < len → ∃ zs : List Int, ∀ q, q < k → w.cell? (a.add (i * k + q)) = some (.int .i64 (gi zs q)) ∧ (Lit.int .i64 (gi zs q)).wf = true := by
      intro i hil
      obtain ⟨cs', hc, ht'⟩ := hi i (by rw [hmm]; simp; omega)
      rw [hC] at hc
      obtain ⟨zs, rfl, hw⟩ := hel _ _ _ ht'
      refine ⟨zs, fun q hq => ⟨?_, hw q hq⟩⟩
      obtain ⟨h1, h2, h3⟩ := World.cells?_some hc
      have h4 := h3 q hq
      have h5 : q < zs.length := by simp at h2; omega
      rw [map_gi h5] at h4
      have e1 : (a.add (i * k)).add q = a.add (i * k + q) := addr_add_add a _ _
      rw [← e1]
      exact h4
    have hex : ∃ f : Nat → List Int, ∀ i, i < len → ∀ q, q < k → w.cell? (a.add (i * k + q)) = some (.int .i64 (gi (f i) q)) ∧ (Lit.int .i64 (gi (f i) q)).wf = true :=
      ⟨fun i => if hil : i < len then (hread i hil).choose else [], fun i hil => by simp only [dif_pos hil]; exact (hread i hil).choose_spec⟩
    obtain ⟨f, hf⟩ := hex
    refine ⟨some a, len, cap, fun i q => gi (f i) q, rfl, hl, fun hp => ?_, fun i hi q hq => (hf i hi q hq).2⟩
    obtain ⟨b, o, sp⟩ := a
    have h0 := (hf 0 hp 0 hk).1
    have hsp : sp = none := by
      cases sp with
      | none => rfl
      | some s =>
        exfalso
        simp only [World.cell?, Addr.add] at h0
        split at h0 <;> simp at h0
    subst hsp
    refine ⟨b, o, rfl, cell_lt (p := ⟨b, o, none⟩) (by have h9 := h0; rw [add_lit] at h9; simpa using h9), fun i hil q hq => ?_⟩
    have h8 := (hf i hil q hq).1
    rw [add_lit, ← Nat.add_assoc] at h8
    exact h8
theorem cells3 {cs : List Value} {z0 z1 z2 : Int} (hl : cs.length = 3) (h0 : (cs.drop 0).take 1 = [.int .i64 z0]) (h1 : (cs.drop 1).take 1 = [.int .i64 z1]) (h2 : (cs.drop 2).take 1 = [.int .i64 z2]) : cs = [z0, z1, z2].map (Value.int .i64) := by
  match cs, hl with
  | [a, b, c], _ => simp at h0 h1 h2; simp [h0, h1, h2]
theorem cells4 {cs : List Value} {z0 z1 z2 z3 : Int} (hl : cs.length = 4) (h0 : (cs.drop 0).take 1 = [.int .i64 z0]) (h1 : (cs.drop 1).take 1 = [.int .i64 z1]) (h2 : (cs.drop 2).take 1 = [.int .i64 z2]) (h3 : (cs.drop 3).take 1 = [.int .i64 z3]) : cs = [z0, z1, z2, z3].map (Value.int .i64) := by
  match cs, hl with
  | [a, b, c, d], _ => simp at h0 h1 h2 h3; simp [h0, h1, h2, h3]
theorem gn_mk {n i : Nat} (h : i < n) (f : Nat → Sp.Nd) : gn ((List.range n).map f) i = f i := by
  rw [gn_lt (by simpa using h)]
  simp
theorem ge_mk {n i : Nat} (h : i < n) (f : Nat → Sp.Ed) : ge ((List.range n).map f) i = f i := by
  rw [ge_lt (by simpa using h)]
  simp
theorem gr_mk {A1 A2 : Option Addr} {n1 n2 : Nat} {g1 g2 : Nat → Nat → Int}
    (c1 : 0 < n1 → ∃ b o, A1 = some ⟨b, o, none⟩ ∧ b < w.heap.size ∧ ∀ i, i < n1 → ∀ q, q < 3 → w.cell? ⟨b, o + i * 3 + q, none⟩ = some (.int .i64 (g1 i q))) (w1 : ∀ i, i < n1 → ∀ q, q < 3 → (Lit.int .i64 (g1 i q)).wf = true)
    (c2 : 0 < n2 → ∃ b o, A2 = some ⟨b, o, none⟩ ∧ b < w.heap.size ∧ ∀ i, i < n2 → ∀ q, q < 4 → w.cell? ⟨b, o + i * 4 + q, none⟩ = some (.int .i64 (g2 i q))) (w2 : ∀ i, i < n2 → ∀ q, q < 4 → (Lit.int .i64 (g2 i q)).wf = true) :
    Gr w A1 n1 A2 n2 ((List.range n1).map (fun i => ⟨g1 i 0, g1 i 1, g1 i 2⟩)) ((List.range n2).map (fun i => ⟨g2 i 0, g2 i 1, g2 i 2, g2 i 3⟩)) := by
  refine ⟨⟨by simp, fun h => ?_⟩, ⟨by simp, fun h => ?_⟩, fun j hj => ?_, fun j hj => ?_⟩
  · obtain ⟨b, o, e, hl, hc⟩ := c1 h
    refine ⟨b, o, e, hl, fun i hi => ?_⟩
    rw [gn_mk hi]
    exact ⟨hc i hi 0 (by omega), hc i hi 1 (by omega), hc i hi 2 (by omega)⟩
  · obtain ⟨b, o, e, hl, hc⟩ := c2 h
    refine ⟨b, o, e, hl, fun i hi => ?_⟩
    rw [ge_mk hi]
    exact ⟨hc i hi 0 (by omega), hc i hi 1 (by omega), hc i hi 2 (by omega), hc i hi 3 (by omega)⟩
  · rw [gn_mk hj]
    exact w1 j hj 0 (by omega)
  · rw [ge_mk hj]
    exact ⟨w2 j hj 0 (by omega), w2 j hj 1 (by omega)⟩
end
end Go.Df
namespace Go.Proofs.YtincpmdldpakkaaDoor
open Go.RowKit Go.ChangeShapes Go.WideShapes Go.Joins Go.Df
theorem open_node {H : Type} {enc : TypeId × Value → H} {w : World} {base : Nat} {held : Bool} (n : Nat) (cs' : List Value) (y : DataW H × List MemPlace) (h : DataW.trod enc Tryd.prog w base (fun _ => true) held n 116 cs' = some y) : ∃ zs : List Int, cs' = zs.map (Value.int .i64) ∧ ∀ q, q < 3 → (Lit.int .i64 (gi zs q)).wf = true := by
  obtain ⟨y0, y1, y2, m, -, hl, h0, h1, h2⟩ := Go.Deep.trod_struct3 Tryd.underlying116 h
  obtain ⟨z0, e0, -, w0⟩ := DataW.trod_int Tryd.underlying3 h0
  obtain ⟨z1, e1, -, w1⟩ := DataW.trod_int Tryd.underlying3 h1
  obtain ⟨z2, e2, -, w2⟩ := DataW.trod_int Tryd.underlying3 h2
  have hc3 : Tryd.prog.cellsOf 116 = 3 := by kernel_rfl
  have hc1 : Tryd.prog.cellsOf 3 = 1 := by kernel_rfl
  rw [hc3] at hl
  dsimp only at e0 e1 e2
  rw [hc1] at e0 e1 e2
  refine ⟨[z0, z1, z2], cells3 hl e0 e1 e2, fun q hq => ?_⟩
  match q, hq with
  | 0, _ => exact w0
  | 1, _ => exact w1
  | 2, _ => exact w2
theorem open_edge {H : Type} {enc : TypeId × Value → H} {w : World} {base : Nat} {held : Bool} (n : Nat) (cs' : List Value) (y : DataW H × List MemPlace) (h : DataW.trod enc Tryd.prog w base (fun _ => true) held n 119 cs' = some y) : ∃ zs : List Int, cs' = zs.map (Value.int .i64) ∧ ∀ q, q < 4 → (Lit.int .i64 (gi zs q)).wf = true := by
  obtain ⟨y0, y1, y2, y3, m, -, hl, h0, h1, h2, h3⟩ := trod_struct4 Tryd.underlying119 h
  obtain ⟨z0, e0, -, w0⟩ := DataW.trod_int Tryd.underlying3 h0
  obtain ⟨z1, e1, -, w1⟩ := DataW.trod_int Tryd.underlying3 h1
  obtain ⟨z2, e2, -, w2⟩ := DataW.trod_int Tryd.underlying3 h2
  obtain ⟨z3, e3, -, w3⟩ := DataW.trod_int Tryd.underlying3 h3
  have hc3 : Tryd.prog.cellsOf 119 = 4 := by kernel_rfl
  have hc1 : Tryd.prog.cellsOf 3 = 1 := by kernel_rfl
  rw [hc3] at hl
  dsimp only at e0 e1 e2 e3
  rw [hc1] at e0 e1 e2 e3
  refine ⟨[z0, z1, z2, z3], cells4 hl e0 e1 e2 e3, fun q hq => ?_⟩
  match q, hq with
  | 0, _ => exact w0
  | 1, _ => exact w1
  | 2, _ => exact w2
  | 3, _ => exact w3
theorem open_gr {H : Type} {enc : TypeId × Value → H} {w : World} {base : Nat} {held : Bool} {f1 f2 : Nat} {v1 v2 : Value} {x1 x2 : DataW H × List MemPlace}
    (h1 : DataW.trod enc Tryd.prog w base (fun _ => true) held f1 22 [v1] = some x1) (h2 : DataW.trod enc Tryd.prog w base (fun _ => true) held f2 23 [v2] = some x2) :
    ∃ A1 n1 c1 A2 n2 c2 ns es, v1 = .slice A1 n1 c1 ∧ v2 = .slice A2 n2 c2 ∧ Gr w A1 n1 A2 n2 ns es := by
  obtain ⟨A1, n1, c1, g1, rfl, -, k1, w1⟩ := open_rowsI Tryd.underlying22 (k := 3) (by kernel_rfl) (by omega) open_node h1
  obtain ⟨A2, n2, c2, g2, rfl, -, k2, w2⟩ := open_rowsI Tryd.underlying23 (k := 4) (by kernel_rfl) (by omega) open_edge h2
  exact ⟨A1, n1, c1, A2, n2, c2, _, _, rfl, rfl, gr_mk k1 w1 k2 w2⟩
end Go.Proofs.YtincpmdldpakkaaDoor
