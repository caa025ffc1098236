/- Contracts of the reference's Check, Same, Least. -/
import Derived.Test.YthliphpcfnbmnaaJ
namespace Go.Proofs.Ythliphpcfnbmnaa
open Go.RowKit Go.Df
attribute [local go_sem ↓] Go.wp_at_zero Go.wp_at_succ

set_option maxHeartbeats 400000 in
theorem rcheck_any (A1 A2 : Option Addr) (n1 c1 n2 c2 : Nat) (r l : List Int) (w : World) (hr : Ints w A1 n1 r) (hl : Ints w A2 n2 l) (hcap : n2 ≤ c2) :
    Calls Try.prog 18 #[.agg #[.slice A1 n1 c1, .slice A2 n2 c2]] w fun e w' => e = .returned (.int .i64 (Wl.chk r l)) ∧ Below w.heap.size w w' := by
  by_cases t1 : 8192 < n1
  · have e1 : Hid (Wl.chk r l = 3) := by
      show Wl.chk r l = 3
      rw [Wl.chk, if_pos (by have := hr.1; omega)]
    have h1 : decide ((8192 : Int) < n1) = true := by simp; omega
    clear hr hl
    go_enter Try.func18, Try.ntmps18
    go_wp2
    go_ret
    exact ⟨ret_int e1.out.symm, by go_grown⟩
  · by_cases t2 : 8192 < n2
    · have e1 : Hid (Wl.chk r l = 3) := by
        show Wl.chk r l = 3
        rw [Wl.chk, if_pos (by have := hl.1; omega)]
      have h1 : decide ((8192 : Int) < n1) = false := by simp; omega
      have h2 : decide ((8192 : Int) < n2) = true := by simp; omega
      clear hr hl
      go_enter Try.func18, Try.ntmps18
      go_wp2
      go_ret
      exact ⟨ret_int e1.out.symm, by go_grown⟩
    · rcases Nat.eq_zero_or_pos n2 with rfl | hp
      · have e1 : Hid (Wl.chk r l = 0) := by
          show Wl.chk r l = 0
          have : l = [] := List.eq_nil_of_length_eq_zero hl.1
          subst this
          rw [Wl.chk, if_neg (by have := hr.1; simp; omega)]; rfl
        have h1 : decide ((8192 : Int) < n1) = false := by simp; omega
        clear hr hl
        go_enter Try.func18, Try.ntmps18
        go_wp2
        refine wp_loop_rounds 1 ?_
        rw [rounds_succ]
        go_wp2
        go_ret
        exact ⟨ret_int e1.out.symm, by go_grown⟩
      · exact rcheck_main A1 A2 n1 c1 n2 c2 r l w hr hl (by omega) (by omega) hp hcap

set_option maxHeartbeats 400000 in
theorem same_any (A1 A2 B1 B2 : Option Addr) (n1 c1 n2 c2 m1 d1 m2 d2 : Nat) (r l s t : List Int) (w : World) (h1 : Ints w A1 n1 r) (h2 : Ints w A2 n2 l) (h3 : Ints w B1 m1 s) (h4 : Ints w B2 m2 t)
    (k1 : n1 ≤ 9223372036854775807) (k2 : n2 ≤ 9223372036854775807) (k3 : m1 ≤ 9223372036854775807) (k4 : m2 ≤ 9223372036854775807) :
    Calls Try.prog 20 #[.agg #[.slice A1 n1 c1, .slice A2 n2 c2], .agg #[.slice B1 m1 d1, .slice B2 m2 d2]] w fun e w' => e = .returned (.bool (decide (r = s) && decide (l = t))) ∧ Below w.heap.size w w' := by
  have H1 := Lib.hid h1
  have H2 := Lib.hid h2
  have H3 := Lib.hid h3
  have H4 := Lib.hid h4
  clear h1 h2 h3 h4
  go_enter Try.func20, Try.ntmps20
  go_upto_region 1 with fail
  refine wp_named (fun W => ∃ b0 b1, w.heap.size = b0 ∧ w.heap.size + 1 = b1 ∧ Blk W b0 [.slice A1 n1 c1, .slice A2 n2 c2] ∧ Blk W b1 [.slice B1 m1 d1, .slice B2 m2 d2] ∧ Below w.heap.size w W) ⟨_, _, rfl, rfl, ?_, ?_, ?_⟩ ?_
  · exact (Blk.new _ _ _ _ (by first | rfl | simp)).alloc _
  · exact Blk.new _ _ _ _ (by first | rfl | simp)
  · go_grown
  rintro W ⟨b0, b1, e0, e1, B0, B1, hB⟩
  rw [e1, e0]
  have G0 : w.heap.size ≤ b0 := by omega
  have n01 : b0 ≠ b1 := by omega
  have G1 : w.heap.size ≤ b1 := by omega
  have n10 : b1 ≠ b0 := by omega
  clear e0 e1
  have ⟨L0, C0, F0⟩ := B0
  have ⟨L1, C1, F1⟩ := B1
  go_wp2_with fail
  refine (equal_any _ _ _ _ _ _ r s _ (H1.out.later hB) (H3.out.later hB) k1 k3).mono ?_
  rintro e w1 ⟨rfl, hb1⟩
  have hk1 : Kept [] W w1 := Kept.call (Kept.refl _ _) hb1
  have ⟨hc1, hf1, hg1⟩ := hk1.rules
  by_cases hz : r = s
  · have hz' : decide (r = s) = true := by simpa using hz
    rw [hz']
    have HZ := Lib.hid hz
    clear hz hz'
    go_wp2_with fail
    refine (equal_any _ _ _ _ _ _ l t _ ((H2.out.later hB).kept hk1) ((H4.out.later hB).kept hk1) k2 k4).mono ?_
    rintro e w2 ⟨rfl, hb2⟩
    have hk2 : Kept [] W w2 := Kept.call hk1 hb2
    go_wp2_with fail
    go_ret
    exact ⟨ret_bool (by simp [HZ.out]), Kept.below (X := []) hB hB.size (by simp) (by (repeat' first | (with_reducible assumption) | (with_reducible exact Kept.refl _ _) | (with_reducible refine Kept.alloc ?_ _) | (with_reducible refine Kept.call ?_ (by assumption)) | (with_reducible refine Kept.set ?_ _ _ _ (Or.inr ?_)) | (with_reducible refine Kept.drew ?_) | (simp; done) | omega | (simp; omega)))⟩
  · have hz' : decide (r = s) = false := by simpa using hz
    rw [hz']
    clear hz'
    go_wp2_with fail
    go_ret
    exact ⟨ret_bool (by simp [hz]), Kept.below (X := []) hB hB.size (by simp) (by (repeat' first | (with_reducible assumption) | (with_reducible exact Kept.refl _ _) | (with_reducible refine Kept.alloc ?_ _) | (with_reducible refine Kept.call ?_ (by assumption)) | (with_reducible refine Kept.set ?_ _ _ _ (Or.inr ?_)) | (with_reducible refine Kept.drew ?_) | (simp; done) | omega | (simp; omega)))⟩
end Go.Proofs.Ythliphpcfnbmnaa
