/- Contracts of the comparisons of nodes and edges. -/
import Derived.Test.YtmbihjlflcjlnaaRows
import Derived.Test.YtmbihjlflcjlnaaSp
namespace Go.Proofs.Ytmbihjlflcjlnaa
open Go.RowKit Go.Df
attribute [local go_sem ↓] Go.wp_at_zero Go.wp_at_succ
theorem int_info : (Try.prog.info? 3).map (fun i => (i.zero, i.size, i.bytes)) = some (some (.int .i64 0), 1, 8) := by kernel_rfl
theorem isNaN_any (x : Int) (w : World) : Calls Try.prog 45 #[.int .i64 x] w fun e w' => e = .returned (.bool false) ∧ w = w' := by
  go_enter Try.func45, Try.ntmps45
  go_wp2
  go_ret
  exact ⟨ret_bool (by simp), rfl⟩
theorem compare_any (x y : Int) (w : World) : Calls Try.prog 39 #[.int .i64 x, .int .i64 y] w fun e w' => e = .returned (.int .i64 (Sp.cmpI x y)) ∧ w = w' := by
  go_enter Try.func39, Try.ntmps39
  go_wp2_with (go_at_call 45; refine (isNaN_any _ _).mono ?_; rintro e w' ⟨rfl, rfl⟩)
  all_goals (go_ret; refine ⟨ret_int ?_, rfl⟩; unfold Sp.cmpI; first | (rw [if_pos (by omega)]) | (rw [if_neg (by omega), if_pos (by omega)]) | (rw [if_neg (by omega), if_neg (by omega)]))
theorem Sp.or_at {l : List Int} {k : Nat} (h : ∀ j, j < k → gi l j = 0) (hk : k < l.length) (h0 : gi l k ≠ 0) : Sp.orL l = gi l k := by
  induction l generalizing k with
  | nil => simp at hk
  | cons x l ih =>
    rw [Sp.orL]
    cases k with
    | zero => rw [if_neg (show ¬ x = 0 from h0)]; rfl
    | succ k =>
      have h1 : x = 0 := h 0 (by omega)
      rw [if_pos h1]
      exact ih (fun j hj => h (j + 1) (by omega)) (by simpa using hk) h0
theorem Sp.or_none {l : List Int} (h : ∀ j, j < l.length → gi l j = 0) : Sp.orL l = 0 := by
  induction l with
  | nil => rfl
  | cons x l ih =>
    have h1 : x = 0 := h 0 (by simp)
    rw [Sp.orL, if_pos h1]
    exact ih (fun j hj => h (j + 1) (by simpa using hj))
set_option maxHeartbeats 400000 in
theorem or_any (A : Option Addr) (n c : Nat) (l : List Int) (w : World) (hl : Ints w A n l) (hp : 0 < n) (hn : n ≤ 1000) :
    Calls Try.prog 38 #[.slice A n c] w fun e w' => e = .returned (.int .i64 (Sp.orL l)) ∧ w = w' := by
  obtain ⟨b, o, rfl, hlt, hc⟩ := hl.at_ hp
  have HL := Lib.hid hl.1
  have HC := Lib.hid hc
  clear hc hl
  go_enter Try.func38, Try.ntmps38
  go_wp2
  go_loop [8] (fun i => ∃ k : Nat, k ≤ n ∧ i = .int .i64 k ∧ Hid (∀ j, j < k → gi l j = 0)) (fun i => n - (intOf i).toNat)
  case atStart => exact ⟨0, Nat.zero_le _, rfl, Lib.hid (fun j hj => absurd hj (by omega))⟩
  case round =>
    obtain ⟨k, hk, rfl, hj⟩ := hrel
    by_cases hlt2 : k < n
    · have hcell := HC.out k hlt2
      by_cases h0 : gi l k = 0
      · have e1 : (gi l k != 0) = false := by simp [h0]
        have H0 := Lib.hid h0
        clear h0
        go_wp2
        go_round
        case rel =>
          refine ⟨k + 1, by omega, by go_num, Lib.hid (fun j hj1 => ?_)⟩
          rcases Nat.lt_or_ge j k with h2 | h2
          · exact hj.out j h2
          · obtain rfl : j = k := by omega
            exact H0.out
        case measure => simp [intOf]; omega
      · have e1 : (gi l k != 0) = true := by simp [h0]
        go_wp2
        go_ret
        exact ⟨ret_int (Sp.or_at hj.out (by rw [HL.out]; exact hlt2) h0).symm, rfl⟩
    · go_wp2
      go_ret
      exact ⟨ret_int (Sp.or_none (fun j hj1 => hj.out j (by rw [HL.out] at hj1; omega))).symm, rfl⟩
theorem Ints.drew {w : World} {A : Option Addr} {n : Nat} {xs : List Int} (h : Ints w A n xs) : Ints w.drew A n xs := h
theorem three_ints (w : World) (x y z : Int) (t : TypeId) (b : Nat) (hb : b = w.heap.size) : Ints (w.alloc (.cells #[.int .i64 x, .int .i64 y, .int .i64 z] t)) (some ⟨b, 0, none⟩) 3 [x, y, z] := by
  subst hb
  refine ⟨rfl, fun _ => ⟨_, _, rfl, by simp, fun i hi => ?_⟩⟩
  rw [World.cell?_alloc_new, Nat.zero_add]
  match i, hi with
  | 0, _ => rfl
  | 1, _ => rfl
  | 2, _ => rfl
theorem four_ints (w : World) (x y z u : Int) (t : TypeId) (b : Nat) (hb : b = w.heap.size) : Ints (w.alloc (.cells #[.int .i64 x, .int .i64 y, .int .i64 z, .int .i64 u] t)) (some ⟨b, 0, none⟩) 4 [x, y, z, u] := by
  subst hb
  refine ⟨rfl, fun _ => ⟨_, _, rfl, by simp, fun i hi => ?_⟩⟩
  rw [World.cell?_alloc_new, Nat.zero_add]
  match i, hi with
  | 0, _ => rfl
  | 1, _ => rfl
  | 2, _ => rfl
  | 3, _ => rfl
set_option maxHeartbeats 1000000 in
theorem orderNode_any (f k i f' k' i' : Int) (w : World) :
    Calls Try.prog 30 #[.agg #[.int .i64 f, .int .i64 k, .int .i64 i], .agg #[.int .i64 f', .int .i64 k', .int .i64 i']] w fun e w' => e = .returned (.int .i64 (Sp.ordN ⟨f, k, i⟩ ⟨f', k', i'⟩)) ∧ Below w.heap.size w w' := by
  go_enter Try.func30, Try.ntmps30
  go_upto_region 1 with fail
  refine wp_named (fun W => ∃ b0 b1, w.heap.size = b0 ∧ w.heap.size + 1 = b1 ∧ Blk W b0 [.int .i64 f, .int .i64 k, .int .i64 i] ∧ Blk W b1 [.int .i64 f', .int .i64 k', .int .i64 i'] ∧ Below w.heap.size w W) ⟨_, _, rfl, rfl, ?_, ?_, ?_⟩ ?_
  · exact (Blk.new _ _ _ _ (by first | rfl | simp)).alloc _
  · exact Blk.new _ _ _ _ (by first | rfl | simp)
  · go_grown
  rintro W ⟨b0, b1, e0, e1, B0, B1, hB⟩
  rw [e1, e0]
  have G0 : w.heap.size ≤ b0 := by omega
  have n01 : b0 ≠ b1 := by omega
  have G1 : w.heap.size ≤ b1 := by omega
  have n10 : b1 ≠ b0 := by omega
  clear e0 e1
  have ⟨L0, C0, F0⟩ := B0
  have ⟨L1, C1, F1⟩ := B1
  go_region_held3 (fun w' => SX0 W w') (repeat' first | (with_reducible assumption) | (with_reducible exact SX0.init _) | (with_reducible exact SX0.refl _) | (with_reducible refine SX0.alloc ?_ _) | (with_reducible refine SX0.call ?_ (by assumption)) | (with_reducible refine SX0.set ?_ _ _ _ ?_) | (with_reducible refine SX0.drew ?_) | (simp; done) | omega | (simp; omega))
    (first | (go_at_call 39; refine (compare_any _ _ _).mono ?_; rintro e w1 ⟨rfl, rfl⟩) | (go_at_call 38; refine (or_any _ _ _ [Sp.cmpI f f', Sp.cmpI k k', Sp.cmpI i i'] _ (by first | exact three_ints _ _ _ _ _ _ (by first | rfl | simp) | exact Ints.drew (three_ints _ _ _ _ _ _ (by first | rfl | simp))) (by omega) (by omega)).mono ?_; rintro e w2 ⟨rfl, rfl⟩))
  all_goals
    go_wp2_with fail
    go_ret
    refine ⟨rfl, Kept.below (X := []) hB hB.size (by simp) ?_⟩
    (repeat' first | (with_reducible assumption) | (with_reducible exact Kept.refl _ _) | (with_reducible refine Kept.alloc ?_ _) | (with_reducible refine Kept.call ?_ (by assumption)) | (with_reducible refine Kept.set ?_ _ _ _ (Or.inr ?_)) | (with_reducible refine Kept.drew ?_) | (simp; done) | omega | (simp; omega))
set_option maxHeartbeats 1000000 in
theorem orderEdge_any (a b k c a' b' k' c' : Int) (w : World) :
    Calls Try.prog 33 #[.agg #[.int .i64 a, .int .i64 b, .int .i64 k, .int .i64 c], .agg #[.int .i64 a', .int .i64 b', .int .i64 k', .int .i64 c']] w fun e w' => e = .returned (.int .i64 (Sp.ordE ⟨a, b, k, c⟩ ⟨a', b', k', c'⟩)) ∧ Below w.heap.size w w' := by
  go_enter Try.func33, Try.ntmps33
  go_upto_region 1 with fail
  refine wp_named (fun W => ∃ b0 b1, w.heap.size = b0 ∧ w.heap.size + 1 = b1 ∧ Blk W b0 [.int .i64 a, .int .i64 b, .int .i64 k, .int .i64 c] ∧ Blk W b1 [.int .i64 a', .int .i64 b', .int .i64 k', .int .i64 c'] ∧ Below w.heap.size w W) ⟨_, _, rfl, rfl, ?_, ?_, ?_⟩ ?_
  · exact (Blk.new _ _ _ _ (by first | rfl | simp)).alloc _
  · exact Blk.new _ _ _ _ (by first | rfl | simp)
  · go_grown
  rintro W ⟨b0, b1, e0, e1, B0, B1, hB⟩
  rw [e1, e0]
  have G0 : w.heap.size ≤ b0 := by omega
  have n01 : b0 ≠ b1 := by omega
  have G1 : w.heap.size ≤ b1 := by omega
  have n10 : b1 ≠ b0 := by omega
  clear e0 e1
  have ⟨L0, C0, F0⟩ := B0
  have ⟨L1, C1, F1⟩ := B1
  go_region_held3 (fun w' => SX0 W w') (repeat' first | (with_reducible assumption) | (with_reducible exact SX0.init _) | (with_reducible exact SX0.refl _) | (with_reducible refine SX0.alloc ?_ _) | (with_reducible refine SX0.call ?_ (by assumption)) | (with_reducible refine SX0.set ?_ _ _ _ ?_) | (with_reducible refine SX0.drew ?_) | (simp; done) | omega | (simp; omega))
    (first | (go_at_call 39; refine (compare_any _ _ _).mono ?_; rintro e w1 ⟨rfl, rfl⟩) | (go_at_call 38; refine (or_any _ _ _ [Sp.cmpI a a', Sp.cmpI b b', Sp.cmpI k k', Sp.cmpI c c'] _ (by first | exact four_ints _ _ _ _ _ _ _ (by first | rfl | simp) | exact Ints.drew (four_ints _ _ _ _ _ _ _ (by first | rfl | simp))) (by omega) (by omega)).mono ?_; rintro e w2 ⟨rfl, rfl⟩))
  all_goals
    go_wp2_with fail
    go_ret
    refine ⟨rfl, Kept.below (X := []) hB hB.size (by simp) ?_⟩
    (repeat' first | (with_reducible assumption) | (with_reducible exact Kept.refl _ _) | (with_reducible refine Kept.alloc ?_ _) | (with_reducible refine Kept.call ?_ (by assumption)) | (with_reducible refine Kept.set ?_ _ _ _ (Or.inr ?_)) | (with_reducible refine Kept.drew ?_) | (simp; done) | omega | (simp; omega))
set_option maxHeartbeats 1000000 in
theorem less_any (f k i f' k' i' : Int) (w : World) :
    Calls Try.prog 41 #[.agg #[.int .i64 f, .int .i64 k, .int .i64 i], .agg #[.int .i64 f', .int .i64 k', .int .i64 i']] w fun e w' => e = .returned (.bool (Sp.lessN ⟨f, k, i⟩ ⟨f', k', i'⟩)) ∧ Below w.heap.size w w' := by
  go_enter Try.func41, Try.ntmps41
  go_wp2
  all_goals (go_ret; refine ⟨ret_bool ?_, by go_grown⟩; unfold Sp.lessN; simp_all)
set_option maxHeartbeats 1000000 in
theorem lessEdge_any (a b k c a' b' k' c' : Int) (w : World) :
    Calls Try.prog 36 #[.agg #[.int .i64 a, .int .i64 b, .int .i64 k, .int .i64 c], .agg #[.int .i64 a', .int .i64 b', .int .i64 k', .int .i64 c']] w fun e w' => e = .returned (.bool (Sp.lessE ⟨a, b, k, c⟩ ⟨a', b', k', c'⟩)) ∧ Below w.heap.size w w' := by
  go_enter Try.func36, Try.ntmps36
  go_wp2
  all_goals (go_ret; refine ⟨ret_bool ?_, by go_grown⟩; unfold Sp.lessE; simp_all)
end Go.Proofs.Ytmbihjlflcjlnaa
