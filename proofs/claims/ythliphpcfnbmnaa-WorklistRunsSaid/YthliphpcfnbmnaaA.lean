/- Contracts of small functions on slices. -/
import Derived.Test.YthliphpcfnbmnaaRows
import Derived.Test.YthliphpcfnbmnaaP
namespace Go.Proofs.Ythliphpcfnbmnaa
open Go.RowKit Go.Df
theorem ret_int {k : IntKind} {a b : Int} (h : a = b) : Ending.returned (.int k a) = .returned (.int k b) := by rw [h]
theorem ret_bool {a b : Bool} (h : a = b) : Ending.returned (.bool a) = .returned (.bool b) := by rw [h]

set_option maxHeartbeats 400000 in
theorem allowed_any (A1 A2 : Option Addr) (n1 c1 n2 c2 : Nat) (x : Int) (w : World) :
    Calls Try.prog 25 #[.agg #[.slice A1 n1 c1, .slice A2 n2 c2], .int .i64 x] w fun e w' => e = .returned (.bool (Wl.allowed n1 x)) ∧ Below w.heap.size w w' := by
  go_enter Try.func25, Try.ntmps25
  go_wp2
  all_goals (go_ret; refine ⟨ret_bool ?_, by go_grown⟩; simp_all [Wl.allowed] <;> omega)
set_option maxHeartbeats 400000 in
theorem item_any (A1 : Option Addr) (n1 c1 : Nat) (x : Int) (w : World) :
    Calls Try.prog 29 #[.slice A1 n1 c1, .int .i64 x] w fun e w' => e = .returned (.bool (Wl.allowed n1 x)) ∧ Below w.heap.size w w' := by
  go_enter Try.func29, Try.ntmps29
  go_wp2
  all_goals (go_ret; refine ⟨ret_bool ?_, by go_grown⟩; simp_all [Wl.allowed] <;> omega)
set_option maxHeartbeats 400000 in
theorem before_q (A : Option Addr) (n c : Nat) (r : List Int) (x y : Int) (w : World) (hr : Ints w A n r) (x0 : 0 ≤ x) (xn : x < n) (y0 : 0 ≤ y) (yn : y < n) :
    Calls Try.prog 27 #[.slice A n c, .int .i64 x, .int .i64 y] w fun e w' => e = .returned (.bool (Wl.before r x y)) ∧ ∃ q, w' = w.drewN q := by
  obtain ⟨k, rfl⟩ := Int.eq_ofNat_of_zero_le x0
  obtain ⟨m, rfl⟩ := Int.eq_ofNat_of_zero_le y0
  obtain ⟨b, o, rfl, hl, hc⟩ := hr.at_ (by omega)
  have hx := hc k (by omega)
  have hy := hc m (by omega)
  clear hc hr
  by_cases e : gi r k = gi r m
  · have e' : (gi r k != gi r m) = false := by simp [e]
    have E := Lib.hid e
    clear e
    go_enter Try.func27, Try.ntmps27
    go_wp2
    go_quiet (fail)
    go_wp2
    go_ret
    exact ⟨ret_bool (by simp [Wl.before, E.out]), ⟨_, rfl⟩⟩
  · have e' : (gi r k != gi r m) = true := by simp [e]
    go_enter Try.func27, Try.ntmps27
    go_wp2
    go_quiet (fail)
    go_wp2
    go_quiet (fail)
    go_wp2
    go_ret
    exact ⟨ret_bool (by simp [Wl.before, e]), by first | exact ⟨_, rfl⟩ | exact ⟨_, World.drewN_drewN _ _ _⟩⟩
theorem before_any (A : Option Addr) (n c : Nat) (r : List Int) (x y : Int) (w : World) (hr : Ints w A n r) (x0 : 0 ≤ x) (xn : x < n) (y0 : 0 ≤ y) (yn : y < n) :
    Calls Try.prog 27 #[.slice A n c, .int .i64 x, .int .i64 y] w fun e w' => e = .returned (.bool (Wl.before r x y)) ∧ Below w.heap.size w w' :=
  (before_q A n c r x y w hr x0 xn y0 yn).mono fun _ _ ⟨he, q, hw⟩ => ⟨he, hw ▸ drewN_below _ _ q⟩
set_option maxHeartbeats 400000 in
theorem rbefore_q (A : Option Addr) (n c : Nat) (r : List Int) (x y : Int) (w : World) (hr : Ints w A n r) (x0 : 0 ≤ x) (xn : x < n) (y0 : 0 ≤ y) (yn : y < n) :
    Calls Try.prog 24 #[.slice A n c, .int .i64 x, .int .i64 y] w fun e w' => e = .returned (.bool (Wl.before r x y)) ∧ ∃ q, w' = w.drewN q := by
  obtain ⟨k, rfl⟩ := Int.eq_ofNat_of_zero_le x0
  obtain ⟨m, rfl⟩ := Int.eq_ofNat_of_zero_le y0
  obtain ⟨b, o, rfl, hl, hc⟩ := hr.at_ (by omega)
  have hx := hc k (by omega)
  have hy := hc m (by omega)
  clear hc hr
  by_cases g : gi r k < gi r m
  · have g' : decide (gi r k < gi r m) = true := by simp [g]
    go_enter Try.func24, Try.ntmps24
    go_wp2
    go_quiet (fail)
    go_wp2
    go_ret
    exact ⟨ret_bool (by simp [Wl.before, g, show ¬ gi r k = gi r m by omega]), ⟨_, rfl⟩⟩
  · have g' : decide (gi r k < gi r m) = false := by simpa using g
    by_cases e : gi r k = gi r m
    · have e' : (gi r k == gi r m) = true := by simp [e]
      have E := Lib.hid e
      clear e g
      go_enter Try.func24, Try.ntmps24
      go_wp2
      go_quiet (fail)
      go_wp2
      go_ret
      exact ⟨ret_bool (by simp [Wl.before, E.out]), ⟨_, rfl⟩⟩
    · have e' : (gi r k == gi r m) = false := by simp [e]
      go_enter Try.func24, Try.ntmps24
      go_wp2
      go_quiet (fail)
      go_wp2
      go_ret
      exact ⟨ret_bool (by simp [Wl.before, e]; omega), ⟨_, rfl⟩⟩
theorem rbefore_any (A : Option Addr) (n c : Nat) (r : List Int) (x y : Int) (w : World) (hr : Ints w A n r) (x0 : 0 ≤ x) (xn : x < n) (y0 : 0 ≤ y) (yn : y < n) :
    Calls Try.prog 24 #[.slice A n c, .int .i64 x, .int .i64 y] w fun e w' => e = .returned (.bool (Wl.before r x y)) ∧ Below w.heap.size w w' :=
  (rbefore_q A n c r x y w hr x0 xn y0 yn).mono fun _ _ ⟨he, q, hw⟩ => ⟨he, hw ▸ drewN_below _ _ q⟩
end Go.Proofs.Ythliphpcfnbmnaa
