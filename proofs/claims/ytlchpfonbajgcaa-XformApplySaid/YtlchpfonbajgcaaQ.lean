/- Plain laws of the transformers: the program's functions and the reference's agree on valid arguments, and the lattice laws. -/
import Derived.Test.YtlchpfonbajgcaaP
namespace Go.Proofs.Ytlchpfonbajgcaa.Xf
open Go.RowKit

theorem check_eq (x : X) : rcheck x = check x := by
  obtain ⟨k, b, c⟩ := x
  simp only [rcheck, check]
  repeat' split
  all_goals first | rfl | (exfalso; simp_all; done) | (exfalso; simp_all; omega) | omega

theorem checkV_eq (v : V) : rcheckV v = checkV v := by
  obtain ⟨k, n⟩ := v
  simp only [rcheckV, checkV]
  repeat' split
  all_goals first | rfl | (exfalso; simp_all; done) | (exfalso; simp_all; omega) | omega

/-- The valid transformers, one by one. -/
theorem valid_cases {x : X} (h : rcheck x = 0) : x = ⟨0, 0, 0⟩ ∨ (∃ c, x = ⟨1, 0, c⟩) ∨ (∃ b, x = ⟨2, b, 0⟩) ∨ (∃ b c, x = ⟨3, b, c⟩) ∨ x = ⟨4, 0, 0⟩ := by
  obtain ⟨k, b, c⟩ := x
  simp only [rcheck] at h
  split at h
  · omega
  · split at h
    · omega
    · rename_i h1 h2
      simp only [not_or, not_and, Int.not_lt] at h1 h2
      obtain ⟨h1a, h1b⟩ := h1
      have hk : k = 0 ∨ k = 1 ∨ k = 2 ∨ k = 3 ∨ k = 4 := by omega
      rcases hk with rfl | rfl | rfl | rfl | rfl <;> simp_all

theorem validV_cases {v : V} (h : rcheckV v = 0) : v = ⟨0, 0⟩ ∨ (∃ n, v = ⟨1, n⟩) ∨ v = ⟨2, 0⟩ := by
  obtain ⟨k, n⟩ := v
  simp only [rcheckV] at h
  split at h
  · omega
  · split at h
    · omega
    · rename_i h1 h2
      simp only [not_or, not_and, Int.not_lt] at h1 h2
      obtain ⟨h1a, h1b⟩ := h1
      have hk : k = 0 ∨ k = 1 ∨ k = 2 := by omega
      rcases hk with rfl | rfl | rfl <;> simp_all

theorem wrap_add (a b : Int) : wrap64 (wrap64 a + b) = wrap64 (a + b) := by unfold wrap64; omega
theorem wrap_add' (a b : Int) : wrap64 (a + wrap64 b) = wrap64 (a + b) := by unfold wrap64; omega
/-- Two numbers that differ still differ behind a shift. -/
theorem wrap_inj {a b n : Int} (ha : wrap64 a = a) (hb : wrap64 b = b) : wrap64 (a + n) = wrap64 (b + n) ↔ a = b := by
  unfold wrap64 at *
  constructor <;> intro h <;> omega

theorem meetV_eq {v w : V} (hv : rcheckV v = 0) (hw : rcheckV w = 0) : rmeetV v w = meetV v w := by
  rcases validV_cases hv with rfl | ⟨n, rfl⟩ | rfl <;> rcases validV_cases hw with rfl | ⟨m, rfl⟩ | rfl <;> simp [rmeetV, meetV]
theorem apply_eq {x : X} {v : V} (hx : rcheck x = 0) (hv : rcheckV v = 0) : rapply x v = apply x v := by
  rcases valid_cases hx with rfl | ⟨c, rfl⟩ | ⟨b, rfl⟩ | ⟨b, c, rfl⟩ | rfl <;> rcases validV_cases hv with rfl | ⟨n, rfl⟩ | rfl <;> simp [rapply, apply, sum, rmeetV, meetV]
theorem below_eq (v w : V) : rbelow v w = below v w := by
  simp only [rbelow, below]
  congr 1
  apply propext
  constructor <;> (rintro (h | h | h) <;> simp [h])
theorem compose_eq {x y : X} (hx : rcheck x = 0) (hy : rcheck y = 0) : rcompose x y = compose x y := by
  rcases valid_cases hx with rfl | ⟨c, rfl⟩ | ⟨b, rfl⟩ | ⟨b, c, rfl⟩ | rfl <;> rcases valid_cases hy with rfl | ⟨c', rfl⟩ | ⟨b', rfl⟩ | ⟨b', c', rfl⟩ | rfl <;>
    simp [rcompose, compose, shifted, rapply, sum, rmeetV]
  all_goals (repeat' split) <;> simp_all
theorem meet_eq {x y : X} (hx : rcheck x = 0) (hy : rcheck y = 0) : rmeet x y = meet x y := by
  rcases valid_cases hx with rfl | ⟨c, rfl⟩ | ⟨b, rfl⟩ | ⟨b, c, rfl⟩ | rfl <;> rcases valid_cases hy with rfl | ⟨c', rfl⟩ | ⟨b', rfl⟩ | ⟨b', c', rfl⟩ | rfl <;>
    simp [rmeet, rmeet1, meet]
  all_goals grind

/- The lattice laws, on valid transformers whose numbers fit. -/
def fits (x : X) : Prop := wrap64 x.b = x.b ∧ wrap64 x.c = x.c

theorem check_compose {x y : X} (hx : rcheck x = 0) (hy : rcheck y = 0) : rcheck (compose x y) = 0 := by
  rcases valid_cases hx with rfl | ⟨c, rfl⟩ | ⟨b, rfl⟩ | ⟨b, c, rfl⟩ | rfl <;> rcases valid_cases hy with rfl | ⟨c', rfl⟩ | ⟨b', rfl⟩ | ⟨b', c', rfl⟩ | rfl <;>
    simp [compose, shifted]
  all_goals (repeat' split) <;> simp [rcheck]
theorem check_meet {x y : X} (hx : rcheck x = 0) (hy : rcheck y = 0) : rcheck (meet x y) = 0 := by
  rcases valid_cases hx with rfl | ⟨c, rfl⟩ | ⟨b, rfl⟩ | ⟨b, c, rfl⟩ | rfl <;> rcases valid_cases hy with rfl | ⟨c', rfl⟩ | ⟨b', rfl⟩ | ⟨b', c', rfl⟩ | rfl <;>
    simp [meet]
  all_goals (repeat' split) <;> simp [rcheck]
/-- The sum that wraps round. -/
def add64 (a b : Int) : Int := wrap64 (a + b)
theorem add64_def (a b : Int) : wrap64 (a + b) = add64 a b := rfl
theorem add64_assoc (a b c : Int) : add64 (add64 a b) c = add64 a (add64 b c) := by unfold add64; rw [wrap_add, wrap_add', Int.add_assoc]
theorem add64_shift {a m n c : Int} (h : wrap64 c = c) : add64 a (add64 m n) = add64 c n ↔ add64 a m = c := by
  unfold add64
  rw [wrap_add']
  unfold wrap64 at *
  constructor <;> intro h' <;> omega
theorem add64_left {n a c : Int} (h : wrap64 a = a) (k : wrap64 c = c) : add64 n a = add64 n c ↔ a = c := by
  unfold add64 wrap64 at *
  constructor <;> intro h' <;> omega
set_option maxHeartbeats 2000000 in
theorem compose_assoc {x y z : X} (hx : rcheck x = 0) (hy : rcheck y = 0) (hz : rcheck z = 0) (fx : fits x) (fy : fits y) : compose (compose x y) z = compose x (compose y z) := by
  have W2 : ∀ a m n c, wrap64 c = c → (add64 a (add64 m n) = add64 c n ↔ add64 a m = c) := fun a m n c h => add64_shift h
  have W1 : ∀ a n c, wrap64 a = a → wrap64 c = c → (add64 a n = add64 c n ↔ a = c) := fun a n c h k => wrap_inj h k
  have W3 : ∀ a m n, add64 (add64 a m) n = add64 a (add64 m n) := add64_assoc
  rcases valid_cases hx with rfl | ⟨c, rfl⟩ | ⟨b, rfl⟩ | ⟨b, c, rfl⟩ | rfl <;> rcases valid_cases hy with rfl | ⟨c', rfl⟩ | ⟨b', rfl⟩ | ⟨b', c', rfl⟩ | rfl <;> rcases valid_cases hz with rfl | ⟨c2, rfl⟩ | ⟨b2, rfl⟩ | ⟨b2, c2, rfl⟩ | rfl <;>
    simp [compose, shifted, add64_def, add64_assoc]
  all_goals simp only [fits] at *
  all_goals grind
set_option maxHeartbeats 2000000 in
theorem meet_assoc {x y z : X} (hx : rcheck x = 0) (hy : rcheck y = 0) (hz : rcheck z = 0) : meet (meet x y) z = meet x (meet y z) := by
  have W2 : ∀ a m n c, wrap64 c = c → (add64 a (add64 m n) = add64 c n ↔ add64 a m = c) := fun a m n c h => add64_shift h
  have W1 : ∀ a n c, wrap64 a = a → wrap64 c = c → (add64 a n = add64 c n ↔ a = c) := fun a n c h k => wrap_inj h k
  have W3 : ∀ a m n, add64 (add64 a m) n = add64 a (add64 m n) := add64_assoc
  rcases valid_cases hx with rfl | ⟨c, rfl⟩ | ⟨b, rfl⟩ | ⟨b, c, rfl⟩ | rfl <;> rcases valid_cases hy with rfl | ⟨c', rfl⟩ | ⟨b', rfl⟩ | ⟨b', c', rfl⟩ | rfl <;> rcases valid_cases hz with rfl | ⟨c2, rfl⟩ | ⟨b2, rfl⟩ | ⟨b2, c2, rfl⟩ | rfl <;>
    simp [meet]
  all_goals grind
set_option maxHeartbeats 2000000 in
theorem compose_meet {x y z : X} (hx : rcheck x = 0) (hy : rcheck y = 0) (hz : rcheck z = 0) (fy : fits y) (fz : fits z) : compose x (meet y z) = meet (compose x y) (compose x z) := by
  have W2 : ∀ a m n c, wrap64 c = c → (add64 a (add64 m n) = add64 c n ↔ add64 a m = c) := fun a m n c h => add64_shift h
  have W1 : ∀ a n c, wrap64 a = a → wrap64 c = c → (add64 a n = add64 c n ↔ a = c) := fun a n c h k => wrap_inj h k
  have W4 : ∀ n a c, wrap64 a = a → wrap64 c = c → (add64 n a = add64 n c ↔ a = c) := fun n a c h k => add64_left h k
  have W3 : ∀ a m n, add64 (add64 a m) n = add64 a (add64 m n) := add64_assoc
  rcases valid_cases hx with rfl | ⟨c, rfl⟩ | ⟨b, rfl⟩ | ⟨b, c, rfl⟩ | rfl <;> rcases valid_cases hy with rfl | ⟨c', rfl⟩ | ⟨b', rfl⟩ | ⟨b', c', rfl⟩ | rfl <;> rcases valid_cases hz with rfl | ⟨c2, rfl⟩ | ⟨b2, rfl⟩ | ⟨b2, c2, rfl⟩ | rfl <;>
    simp [compose, shifted, meet, add64_def]
  all_goals simp only [fits] at *
  all_goals grind
set_option maxHeartbeats 2000000 in
theorem meet_compose {x y z : X} (hx : rcheck x = 0) (hy : rcheck y = 0) (hz : rcheck z = 0) (fx : fits x) (fy : fits y) : compose (meet x y) z = meet (compose x z) (compose y z) := by
  have W2 : ∀ a m n c, wrap64 c = c → (add64 a (add64 m n) = add64 c n ↔ add64 a m = c) := fun a m n c h => add64_shift h
  have W1 : ∀ a n c, wrap64 a = a → wrap64 c = c → (add64 a n = add64 c n ↔ a = c) := fun a n c h k => wrap_inj h k
  have W3 : ∀ a m n, add64 (add64 a m) n = add64 a (add64 m n) := add64_assoc
  rcases valid_cases hx with rfl | ⟨c, rfl⟩ | ⟨b, rfl⟩ | ⟨b, c, rfl⟩ | rfl <;> rcases valid_cases hy with rfl | ⟨c', rfl⟩ | ⟨b', rfl⟩ | ⟨b', c', rfl⟩ | rfl <;> rcases valid_cases hz with rfl | ⟨c2, rfl⟩ | ⟨b2, rfl⟩ | ⟨b2, c2, rfl⟩ | rfl <;>
    simp [compose, shifted, meet, add64_def]
  all_goals simp only [fits] at *
  all_goals grind

theorem meet_comm {x y : X} (hx : rcheck x = 0) (hy : rcheck y = 0) : meet x y = meet y x := by
  rcases valid_cases hx with rfl | ⟨c, rfl⟩ | ⟨b, rfl⟩ | ⟨b, c, rfl⟩ | rfl <;> rcases valid_cases hy with rfl | ⟨c', rfl⟩ | ⟨b', rfl⟩ | ⟨b', c', rfl⟩ | rfl <;> simp [meet]
  all_goals grind
theorem meet_self (x : X) : meet x x = x := by simp [meet]
theorem meet_top (x : X) : meet x ⟨0, 0, 0⟩ = x := by simp [meet]
theorem steps_meet {x y : X} (hx : rcheck x = 0) (hy : rcheck y = 0) : meet x y = x ∨ steps (meet x y) < steps x := by
  rcases valid_cases hx with rfl | ⟨c, rfl⟩ | ⟨b, rfl⟩ | ⟨b, c, rfl⟩ | rfl <;> rcases valid_cases hy with rfl | ⟨c', rfl⟩ | ⟨b', rfl⟩ | ⟨b', c', rfl⟩ | rfl <;> simp [meet]
  all_goals grind [steps]
theorem steps_le (x : X) : steps x ≤ 3 := by unfold steps; repeat' split
                                             all_goals omega
theorem steps_nonneg (x : X) : 0 ≤ steps x := by unfold steps; repeat' split
                                                 all_goals omega
set_option maxHeartbeats 1000000 in
theorem apply_compose {x y : X} {v : V} (hx : rcheck x = 0) (hy : rcheck y = 0) (hv : rcheckV v = 0) (fx : fits x) : apply (compose x y) v = apply y (apply x v) := by
  have W2 : ∀ a m n c, wrap64 c = c → (add64 a (add64 m n) = add64 c n ↔ add64 a m = c) := fun a m n c h => add64_shift h
  have W3 : ∀ a m n, add64 (add64 a m) n = add64 a (add64 m n) := add64_assoc
  rcases valid_cases hx with rfl | ⟨c, rfl⟩ | ⟨b, rfl⟩ | ⟨b, c, rfl⟩ | rfl <;> rcases valid_cases hy with rfl | ⟨c', rfl⟩ | ⟨b', rfl⟩ | ⟨b', c', rfl⟩ | rfl <;> rcases validV_cases hv with rfl | ⟨n, rfl⟩ | rfl <;> simp [compose, shifted, apply, sum, meetV, add64_def, add64_assoc]
  all_goals simp only [fits] at *
  all_goals grind
set_option maxHeartbeats 1000000 in
theorem apply_meet {x y : X} {v : V} (hx : rcheck x = 0) (hy : rcheck y = 0) (hv : rcheckV v = 0) (fx : fits x) (fy : fits y) : apply (meet x y) v = meetV (apply x v) (apply y v) := by
  have W4 : ∀ n a c, wrap64 a = a → wrap64 c = c → (add64 n a = add64 n c ↔ a = c) := fun n a c h k => add64_left h k
  rcases valid_cases hx with rfl | ⟨c, rfl⟩ | ⟨b, rfl⟩ | ⟨b, c, rfl⟩ | rfl <;> rcases valid_cases hy with rfl | ⟨c', rfl⟩ | ⟨b', rfl⟩ | ⟨b', c', rfl⟩ | rfl <;> rcases validV_cases hv with rfl | ⟨n, rfl⟩ | rfl <;> simp [meet, apply, sum, meetV, add64_def]
  all_goals simp only [fits] at *
  all_goals grind
set_option maxHeartbeats 1000000 in
theorem apply_meetV {x : X} {v w : V} (hx : rcheck x = 0) (hv : rcheckV v = 0) (hw : rcheckV w = 0) (fv : wrap64 v.n = v.n) (fw : wrap64 w.n = w.n) : apply x (meetV v w) = meetV (apply x v) (apply x w) := by
  have W1 : ∀ a n c, wrap64 a = a → wrap64 c = c → (add64 a n = add64 c n ↔ a = c) := fun a n c h k => wrap_inj h k
  rcases valid_cases hx with rfl | ⟨c, rfl⟩ | ⟨b, rfl⟩ | ⟨b, c, rfl⟩ | rfl <;> rcases validV_cases hv with rfl | ⟨n, rfl⟩ | rfl <;> rcases validV_cases hw with rfl | ⟨m, rfl⟩ | rfl <;> simp [apply, sum, meetV, add64_def]
  all_goals grind
theorem check_apply {x : X} {v : V} (hx : rcheck x = 0) (hv : rcheckV v = 0) : rcheckV (apply x v) = 0 := by
  rcases valid_cases hx with rfl | ⟨c, rfl⟩ | ⟨b, rfl⟩ | ⟨b, c, rfl⟩ | rfl <;> rcases validV_cases hv with rfl | ⟨n, rfl⟩ | rfl <;> simp [apply, sum, meetV]
  all_goals (repeat' split) <;> simp [rcheckV]
end Go.Proofs.Ytlchpfonbajgcaa.Xf
