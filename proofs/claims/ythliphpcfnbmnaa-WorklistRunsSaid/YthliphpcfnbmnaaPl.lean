/- The contract of Least. -/
import Derived.Test.YthliphpcfnbmnaaO
namespace Go.Proofs.Ythliphpcfnbmnaa
open Go.RowKit Go.Df
/-- The least of the first k + 1 items. -/
def Wl.leastTo (r l : List Int) : Nat → Int
  | 0 => gi l 0
  | k + 1 => if 0 < r.length ∧ Wl.before r (gi l (k + 1)) (Wl.leastTo r l k) = true then gi l (k + 1) else Wl.leastTo r l k
theorem Wl.leastTo_in (r l : List Int) (k : Nat) : ∃ j, j ≤ k ∧ Wl.leastTo r l k = gi l j := by
  induction k with
  | zero => exact ⟨0, Nat.le_refl _, rfl⟩
  | succ k ih =>
    rw [Wl.leastTo]
    split
    · exact ⟨k + 1, Nat.le_refl _, rfl⟩
    · obtain ⟨j, h1, h2⟩ := ih; exact ⟨j, by omega, h2⟩

set_option maxHeartbeats 400000 in
theorem least_any (A1 A2 : Option Addr) (n1 c1 n2 c2 : Nat) (r l : List Int) (w : World) (hr : Ints w A1 n1 r) (hl : Ints w A2 n2 l) (hp : 0 < n2) (s2 : n2 ≤ 1000000)
    (hin : 0 < n1 → ∀ j, j < n2 → 0 ≤ gi l j ∧ gi l j < n1) :
    Calls Try.prog 11 #[.slice A1 n1 c1, .slice A2 n2 c2] w fun e w' => e = .returned (.int .i64 (Wl.leastTo r l (n2 - 1))) ∧ Below w.heap.size w w' := by
  obtain ⟨b, o, rfl, hlt, hc⟩ := hl.at_ hp
  have HR := Lib.hid hr
  have Hr := Lib.hid hr.1
  have HC := Lib.hid hc
  have HI := Lib.hid hin
  have h0 : w.cell? ⟨b, o, none⟩ = some (.int .i64 (gi l 0)) := hc 0 hp
  clear hr hl hc hin
  go_enter Try.func11, Try.ntmps11
  go_wp2
  go_loopw [5, 6] (fun x i wr => ∃ k q : Nat, k < n2 ∧ i = .int .i64 (k + 1 : Nat) ∧ x = .int .i64 (Wl.leastTo r l k) ∧ wr = w.drewN q) (fun _ i _ => n2 - (intOf i).toNat)
  case atStart => exact ⟨0, 0, hp, rfl, rfl, rfl⟩
  case round =>
    obtain ⟨k, q, hk, rfl, rfl, rfl⟩ := hrel
    by_cases hkn : k + 1 < n2
    · have hcell := HC.out (k + 1) hkn
      by_cases hz : n1 = 0
      · have z1 : decide (0 < n1) = false := by simp; omega
        have z2 : decide ((0 : Int) < (n1 : Int)) = false := by simp; omega
        have he : Hid (Wl.leastTo r l (k + 1) = Wl.leastTo r l k) := by
          show Wl.leastTo r l (k + 1) = _
          rw [Wl.leastTo, if_neg (by rw [Hr.out]; omega)]
        clear hz
        go_wp2_with fail
        exact ⟨⟨k + 1, q, hkn, by go_num, by rw [he.out], rfl⟩, by simp [intOf]; omega⟩
      · have z1 : decide (0 < n1) = true := by simp; omega
        have z2 : decide ((0 : Int) < (n1 : Int)) = true := by simp; omega
        have z3 : 0 < n1 := by omega
        obtain ⟨x0, x1⟩ := HI.out z3 (k + 1) hkn
        obtain ⟨j, hj, ej⟩ := Wl.leastTo_in r l k
        have hy := HI.out z3 j (by omega)
        rw [← ej] at hy
        obtain ⟨y0, y1⟩ := hy
        clear ej hz
        by_cases hb : Wl.before r (gi l (k + 1)) (Wl.leastTo r l k) = true
        · have he : Hid (Wl.leastTo r l (k + 1) = gi l (k + 1)) := by
            show Wl.leastTo r l (k + 1) = _
            rw [Wl.leastTo, if_pos ⟨by rw [Hr.out]; omega, hb⟩]
          go_wp2_with (go_at_call 24; refine (rbefore_q _ _ _ r _ _ _ (show Ints (World.drewN w q) A1 n1 r from HR.out) x0 x1 y0 y1).mono ?_; rintro e w1 ⟨rfl, q1, rfl⟩)
          exact ⟨⟨k + 1, _, hkn, by go_num, by rw [he.out], rfl⟩, by simp [intOf]; omega⟩
        · have he : Hid (Wl.leastTo r l (k + 1) = Wl.leastTo r l k) := by
            show Wl.leastTo r l (k + 1) = _
            rw [Wl.leastTo, if_neg (fun h => hb h.2)]
          rw [Bool.not_eq_true] at hb
          go_wp2_with (go_at_call 24; refine (rbefore_q _ _ _ r _ _ _ (show Ints (World.drewN w q) A1 n1 r from HR.out) x0 x1 y0 y1).mono ?_; rintro e w1 ⟨rfl, q1, rfl⟩)
          exact ⟨⟨k + 1, _, hkn, by go_num, by rw [he.out], rfl⟩, by simp [intOf]; omega⟩
    · have e1 : Hid (n2 - 1 = k) := Lib.hid (by omega)
      go_wp2_with fail
      go_ret
      exact ⟨ret_int (by rw [e1.out]), drewN_below _ _ _⟩
end Go.Proofs.Ythliphpcfnbmnaa
