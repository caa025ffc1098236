/- Values and transformers: the contracts of MeetValue, Below and Apply of package xform and of its reference. -/
import Derived.Test.YtmjebjjhfoncfaaDoorEd
import Derived.WalkSpells
import Derived.WalkLawsBesides
namespace Go.Proofs.YtmjebjjhfoncfaaDoor.Xf
open Go.RowKit
structure X where
  k : Int
  b : Int
  c : Int
structure V where
  k : Int
  n : Int
instance : DecidableEq X := fun x y =>
  if h : x.k = y.k ∧ x.b = y.b ∧ x.c = y.c then isTrue (by cases x; cases y; simp_all) else isFalse (by rintro rfl; exact h ⟨rfl, rfl, rfl⟩)
instance : DecidableEq V := fun v w =>
  if h : v.k = w.k ∧ v.n = w.n then isTrue (by cases v; cases w; simp_all) else isFalse (by rintro rfl; exact h ⟨rfl, rfl⟩)
def sum (v : V) (b : Int) : V := if v.k = 1 then ⟨1, wrap64 (v.n + b)⟩ else v
def meetV (v w : V) : V := if v = w ∨ w.k = 0 then v else if v.k = 0 then w else ⟨2, 0⟩
def rmeetV (v w : V) : V := if v.k = 0 then w else if w.k = 0 ∨ v = w then v else ⟨2, 0⟩
def apply (x : X) (v : V) : V :=
  if v.k = 0 then ⟨0, 0⟩ else if x.k = 0 then ⟨0, 0⟩ else if x.k = 1 then ⟨1, x.c⟩ else if x.k = 2 then sum v x.b
  else if x.k = 3 then meetV (sum v x.b) ⟨1, x.c⟩ else ⟨2, 0⟩
def rapply (x : X) (v : V) : V :=
  if v.k = 0 then v else if x.k = 0 then ⟨0, 0⟩ else if x.k = 1 then ⟨1, x.c⟩ else if x.k = 2 then sum v x.b
  else if x.k = 3 then rmeetV (sum v x.b) ⟨1, x.c⟩ else ⟨2, 0⟩
def below (v w : V) : Bool := w.k = 0 ∨ v.k = 2 ∨ v = w
def rbelow (v w : V) : Bool := v = w ∨ v.k = 2 ∨ w.k = 0
end Go.Proofs.YtmjebjjhfoncfaaDoor.Xf
namespace Go.Proofs.YtmjebjjhfoncfaaDoor
open Go.RowKit Go.Df
attribute [local go_sem ↓] Go.wp_at_zero Go.wp_at_succ
theorem ret_v {a b : Int} {x : Xf.V} (h : ⟨a, b⟩ = x) : Ending.returned (.agg #[.int .i64 a, .int .i64 b]) = .returned (.agg #[.int .i64 x.k, .int .i64 x.n]) := by subst h; rfl

set_option maxHeartbeats 400000 in
theorem meetV_any (k n k' n' : Int) (w : World) :
    Calls Tryd.prog 57 #[.agg #[.int .i64 k, .int .i64 n], .agg #[.int .i64 k', .int .i64 n']] w fun e w' => e = .returned (.agg #[.int .i64 (Xf.meetV ⟨k, n⟩ ⟨k', n'⟩).k, .int .i64 (Xf.meetV ⟨k, n⟩ ⟨k', n'⟩).n]) ∧ Below w.heap.size w w' := by
  go_enter Tryd.func57, Tryd.ntmps57
  go_wp2
  all_goals (go_returns; refine ⟨ret_v ?_, by go_grown⟩; simp_all [Xf.meetV])
set_option maxHeartbeats 400000 in
theorem rmeetV_any (k n k' n' : Int) (w : World) :
    Calls Tryd.prog 58 #[.agg #[.int .i64 k, .int .i64 n], .agg #[.int .i64 k', .int .i64 n']] w fun e w' => e = .returned (.agg #[.int .i64 (Xf.rmeetV ⟨k, n⟩ ⟨k', n'⟩).k, .int .i64 (Xf.rmeetV ⟨k, n⟩ ⟨k', n'⟩).n]) ∧ Below w.heap.size w w' := by
  go_enter Tryd.func58, Tryd.ntmps58
  go_wp2
  all_goals (go_returns; refine ⟨ret_v ?_, by go_grown⟩; simp_all [Xf.rmeetV])
set_option maxHeartbeats 400000 in
theorem below_any (k n k' n' : Int) (w : World) :
    Calls Tryd.prog 26 #[.agg #[.int .i64 k, .int .i64 n], .agg #[.int .i64 k', .int .i64 n']] w fun e w' => e = .returned (.bool (Xf.below ⟨k, n⟩ ⟨k', n'⟩)) ∧ Below w.heap.size w w' := by
  go_enter Tryd.func26, Tryd.ntmps26
  go_wp2
  all_goals (go_returns; refine ⟨ret_bool ?_, by go_grown⟩; simp_all [Xf.below])
set_option maxHeartbeats 400000 in
theorem rbelow_any (k n k' n' : Int) (w : World) :
    Calls Tryd.prog 27 #[.agg #[.int .i64 k, .int .i64 n], .agg #[.int .i64 k', .int .i64 n']] w fun e w' => e = .returned (.bool (Xf.rbelow ⟨k, n⟩ ⟨k', n'⟩)) ∧ Below w.heap.size w w' := by
  go_enter Tryd.func27, Tryd.ntmps27
  go_wp2
  all_goals (go_returns; refine ⟨ret_bool ?_, by go_grown⟩; simp_all [Xf.rbelow]; try (rw [Bool.eq_iff_iff]; simp_all))
set_option maxHeartbeats 400000 in
theorem sum_any (k n m : Int) (w : World) :
    Calls Tryd.prog 74 #[.agg #[.int .i64 k, .int .i64 n], .int .i64 m] w fun e w' => e = .returned (.agg #[.int .i64 (Xf.sum ⟨k, n⟩ m).k, .int .i64 (Xf.sum ⟨k, n⟩ m).n]) ∧ Below w.heap.size w w' := by
  go_enter Tryd.func74, Tryd.ntmps74
  go_wp2
  all_goals (go_returns; refine ⟨ret_v ?_, by go_grown⟩; simp_all [Xf.sum])

set_option maxHeartbeats 400000 in
theorem rsum_any (k n m : Int) (w : World) :
    Calls Tryd.prog 95 #[.agg #[.int .i64 k, .int .i64 n], .int .i64 m] w fun e w' => e = .returned (.agg #[.int .i64 (Xf.sum ⟨k, n⟩ m).k, .int .i64 (Xf.sum ⟨k, n⟩ m).n]) ∧ Below w.heap.size w w' := by
  go_enter Tryd.func95, Tryd.ntmps95
  go_wp2
  all_goals (go_returns; refine ⟨ret_v ?_, by go_grown⟩; simp_all [Xf.sum])

set_option maxHeartbeats 400000 in
theorem const_any (n : Int) (w : World) :
    Calls Tryd.prog 73 #[.int .i64 n] w fun e w' => e = .returned (.agg #[.int .i64 1, .int .i64 n]) ∧ Below w.heap.size w w' := by
  go_enter Tryd.func73, Tryd.ntmps73
  go_wp2
  all_goals (go_returns; exact ⟨rfl, by go_grown⟩)

set_option maxHeartbeats 400000 in
theorem rconst_any (n : Int) (w : World) :
    Calls Tryd.prog 94 #[.int .i64 n] w fun e w' => e = .returned (.agg #[.int .i64 1, .int .i64 n]) ∧ Below w.heap.size w w' := by
  go_enter Tryd.func94, Tryd.ntmps94
  go_wp2
  all_goals (go_returns; exact ⟨rfl, by go_grown⟩)

set_option maxHeartbeats 400000 in
theorem apply3_any (b c k' n : Int) (w : World) (hk : (k' == 0) = false) :
    Calls Tryd.prog 47 #[.agg #[.int .i64 3, .int .i64 b, .int .i64 c], .agg #[.int .i64 k', .int .i64 n]] w fun e w' => e = .returned (.agg #[.int .i64 (Xf.apply ⟨3, b, c⟩ ⟨k', n⟩).k, .int .i64 (Xf.apply ⟨3, b, c⟩ ⟨k', n⟩).n]) ∧ Below w.heap.size w w' := by
  go_enter Tryd.func47, Tryd.ntmps47
  go_wp2_with fail
  refine wp_named (fun W => ∃ b0 b1 b2, w.heap.size = b0 ∧ w.heap.size + 1 = b1 ∧ w.heap.size + 1 + 1 = b2 ∧ Blk W b0 [.int .i64 3, .int .i64 b, .int .i64 c] ∧ Blk W b1 [.int .i64 k', .int .i64 n] ∧ Blk W b2 [.int .i64 0, .int .i64 0] ∧ Below w.heap.size w W) ⟨_, _, _, rfl, rfl, rfl, ?_, ?_, ?_, ?_⟩ ?_
  · exact ((Blk.new _ _ _ _ rfl).alloc _).alloc _
  · exact (Blk.new _ _ _ _ (by simp)).alloc _
  · exact (Blk.new _ _ _ _ (by simp))
  · go_grown
  rintro W ⟨b0, b1, b2, e0, e1, e2, B0, B1, B2, hB⟩
  rw [e2, e1, e0]
  have H : w.heap.size ≤ b2 := by omega
  have n02 : b0 ≠ b2 := by omega
  have n12 : b1 ≠ b2 := by omega
  clear e0 e1 e2
  have ⟨L0, C0, F0⟩ := B0
  have ⟨L1, C1, F1⟩ := B1
  go_region_held3 (fun w' => SX1 W b2 2 w') (first | exact SX1.init B2 | exact SX1.call (by assumption) (by assumption) | (repeat' first | assumption | refine SX1.set ?_ _ _))
    (first | (go_at_call 74; refine (sum_any _ _ _ _).mono ?_; rintro e w1 ⟨rfl, hb1⟩) | (go_at_call 73; refine (const_any _ _).mono ?_; rintro e w2 ⟨rfl, hb2⟩) | (go_at_call 57; refine (meetV_any _ _ _ _ _).mono ?_; rintro e w3 ⟨rfl, hb3⟩))
  refine SX1.go2 (F := Exit.then _ _ _ _) (by assumption) ?_
  rintro Wf kf ⟨L2, C2, F2⟩
  have hBf := kf.below hB hB.size (by simpa using H)
  go_wp2_with fail
  refine bodyPost_ret (by simp [results, Tryd.results47, go_sem, C2]; rfl) rfl ?_
  refine ⟨ret_v ?_, hBf⟩
  have hk' : k' ≠ 0 := by simpa using hk
  simp [Xf.apply, hk']

set_option maxHeartbeats 400000 in
theorem apply_any (k b c k' n : Int) (w : World) :
    Calls Tryd.prog 47 #[.agg #[.int .i64 k, .int .i64 b, .int .i64 c], .agg #[.int .i64 k', .int .i64 n]] w fun e w' => e = .returned (.agg #[.int .i64 (Xf.apply ⟨k, b, c⟩ ⟨k', n⟩).k, .int .i64 (Xf.apply ⟨k, b, c⟩ ⟨k', n⟩).n]) ∧ Below w.heap.size w w' := by
  by_cases h0 : (k' == 0) = true
  · go_enter Tryd.func47, Tryd.ntmps47
    go_wp2_with fail
    go_returns
    exact ⟨ret_v (by simp_all [Xf.apply]), by go_grown⟩
  · replace h0 : (k' == 0) = false := by simpa using h0
    by_cases h3 : k = 3
    · subst h3; exact apply3_any b c k' n w h0
    · replace h3 : (k == 3) = false := by simpa using h3
      go_enter Tryd.func47, Tryd.ntmps47
      go_wp2
      all_goals
        go_returns
        exact ⟨ret_v (by simp_all [Xf.apply, Xf.sum]), by go_grown⟩

set_option maxHeartbeats 400000 in
theorem rapply3_any (b c k' n : Int) (w : World) (hk : (k' == 0) = false) :
    Calls Tryd.prog 75 #[.agg #[.int .i64 3, .int .i64 b, .int .i64 c], .agg #[.int .i64 k', .int .i64 n]] w fun e w' => e = .returned (.agg #[.int .i64 (Xf.rapply ⟨3, b, c⟩ ⟨k', n⟩).k, .int .i64 (Xf.rapply ⟨3, b, c⟩ ⟨k', n⟩).n]) ∧ Below w.heap.size w w' := by
  go_enter Tryd.func75, Tryd.ntmps75
  go_wp2_with fail
  refine wp_named (fun W => ∃ b0 b1 b2, w.heap.size = b0 ∧ w.heap.size + 1 = b1 ∧ w.heap.size + 1 + 1 = b2 ∧ Blk W b0 [.int .i64 3, .int .i64 b, .int .i64 c] ∧ Blk W b1 [.int .i64 k', .int .i64 n] ∧ Blk W b2 [.int .i64 0, .int .i64 0] ∧ Below w.heap.size w W) ⟨_, _, _, rfl, rfl, rfl, ?_, ?_, ?_, ?_⟩ ?_
  · exact ((Blk.new _ _ _ _ rfl).alloc _).alloc _
  · exact (Blk.new _ _ _ _ (by simp)).alloc _
  · exact (Blk.new _ _ _ _ (by simp))
  · go_grown
  rintro W ⟨b0, b1, b2, e0, e1, e2, B0, B1, B2, hB⟩
  rw [e2, e1, e0]
  have H : w.heap.size ≤ b2 := by omega
  have n02 : b0 ≠ b2 := by omega
  have n12 : b1 ≠ b2 := by omega
  clear e0 e1 e2
  have ⟨L0, C0, F0⟩ := B0
  have ⟨L1, C1, F1⟩ := B1
  go_region_held3 (fun w' => SX1 W b2 2 w') (first | exact SX1.init B2 | exact SX1.call (by assumption) (by assumption) | (repeat' first | assumption | refine SX1.set ?_ _ _))
    (first | (go_at_call 95; refine (rsum_any _ _ _ _).mono ?_; rintro e w1 ⟨rfl, hb1⟩) | (go_at_call 94; refine (rconst_any _ _).mono ?_; rintro e w2 ⟨rfl, hb2⟩) | (go_at_call 58; refine (rmeetV_any _ _ _ _ _).mono ?_; rintro e w3 ⟨rfl, hb3⟩))
  refine SX1.go2 (F := Exit.then _ _ _ _) (by assumption) ?_
  rintro Wf kf ⟨L2, C2, F2⟩
  have hBf := kf.below hB hB.size (by simpa using H)
  go_wp2_with fail
  refine bodyPost_ret (by simp [results, Tryd.results75, go_sem, C2]; rfl) rfl ?_
  refine ⟨ret_v ?_, hBf⟩
  have hk' : k' ≠ 0 := by simpa using hk
  simp [Xf.rapply, hk']

set_option maxHeartbeats 400000 in
theorem rapply_any (k b c k' n : Int) (w : World) :
    Calls Tryd.prog 75 #[.agg #[.int .i64 k, .int .i64 b, .int .i64 c], .agg #[.int .i64 k', .int .i64 n]] w fun e w' => e = .returned (.agg #[.int .i64 (Xf.rapply ⟨k, b, c⟩ ⟨k', n⟩).k, .int .i64 (Xf.rapply ⟨k, b, c⟩ ⟨k', n⟩).n]) ∧ Below w.heap.size w w' := by
  by_cases h0 : (k' == 0) = true
  · go_enter Tryd.func75, Tryd.ntmps75
    go_wp2_with fail
    go_returns
    exact ⟨ret_v (by simp_all [Xf.rapply]), by go_grown⟩
  · replace h0 : (k' == 0) = false := by simpa using h0
    by_cases h3 : k = 3
    · subst h3; exact rapply3_any b c k' n w h0
    · replace h3 : (k == 3) = false := by simpa using h3
      go_enter Tryd.func75, Tryd.ntmps75
      go_wp2
      all_goals
        go_returns
        exact ⟨ret_v (by simp_all [Xf.rapply, Xf.sum]), by go_grown⟩

end Go.Proofs.YtmjebjjhfoncfaaDoor
