/- The contract of Check at every worklist, and of Len, Has. -/
import Derived.Test.YthliphpcfnbmnaaG
namespace Go.Proofs.Ythliphpcfnbmnaa
open Go.RowKit Go.Df
attribute [local go_sem ↓] Go.wp_at_zero Go.wp_at_succ

set_option maxHeartbeats 400000 in
theorem check_any (A1 A2 : Option Addr) (n1 c1 n2 c2 : Nat) (r l : List Int) (w : World) (hr : Ints w A1 n1 r) (hl : Ints w A2 n2 l) :
    Calls Try.prog 16 #[.agg #[.slice A1 n1 c1, .slice A2 n2 c2]] w fun e w' => e = .returned (.int .i64 (Wl.chk r l)) ∧ Below w.heap.size w w' := by
  by_cases t1 : 8192 < n1
  · have e1 : Hid (Wl.chk r l = 3) := by
      show Wl.chk r l = 3
      rw [Wl.chk, if_pos (by have := hr.1; omega)]
    have h1 : decide ((8192 : Int) < n1) = true := by simp; omega
    clear hr hl
    go_enter Try.func16, Try.ntmps16
    go_wp2
    go_ret
    exact ⟨ret_int e1.out.symm, by go_grown⟩
  · by_cases t2 : 8192 < n2
    · have e1 : Hid (Wl.chk r l = 3) := by
        show Wl.chk r l = 3
        rw [Wl.chk, if_pos (by have := hl.1; omega)]
      have h1 : decide ((8192 : Int) < n1) = false := by simp; omega
      have h2 : decide ((8192 : Int) < n2) = true := by simp; omega
      clear hr hl
      go_enter Try.func16, Try.ntmps16
      go_wp2
      go_ret
      exact ⟨ret_int e1.out.symm, by go_grown⟩
    · rcases Nat.eq_zero_or_pos n2 with rfl | hp
      · have hz49 := zero49
        have e1 : Hid (Wl.chk r l = 0) := by
          show Wl.chk r l = 0
          have : l = [] := List.eq_nil_of_length_eq_zero hl.1
          subst this
          rw [Wl.chk, if_neg (by have := hr.1; simp; omega)]; rfl
        have h1 : decide ((8192 : Int) < n1) = false := by simp; omega
        clear hr hl
        go_enter Try.func16, Try.ntmps16
        go_wp2
        refine wp_loop_rounds 1 ?_
        rw [rounds_succ]
        go_wp2
        go_ret
        exact ⟨ret_int e1.out.symm, by go_grown⟩
      · exact check_main A1 A2 n1 c1 n2 c2 r l w hr hl (by omega) (by omega) hp
end Go.Proofs.Ythliphpcfnbmnaa
