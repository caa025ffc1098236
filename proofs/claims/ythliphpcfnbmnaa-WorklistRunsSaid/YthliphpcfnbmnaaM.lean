/- Contracts of Pop. -/
import Derived.Test.YthliphpcfnbmnaaL
namespace Go.Proofs.Ythliphpcfnbmnaa
open Go.RowKit Go.Df
attribute [local go_sem ↓] Go.wp_at_zero Go.wp_at_succ
/-- An item, a worklist and a bool come back. -/
def GetPop (w : World) (x : Int) (r l : List Int) (ok : Bool) (e : Ending) (w' : World) : Prop :=
  ∃ A1 n1 c1 A2 n2 c2, e = .returned (.tuple #[.int .i64 x, .agg #[.slice A1 n1 c1, .slice A2 n2 c2], .bool ok]) ∧ SIn w' A1 n1 c1 r ∧ SIn w' A2 n2 c2 l ∧ Below w.heap.size w w' ∧ Fr w w' A1 ∧ Fr w w' A2

set_option maxHeartbeats 400000 in
theorem pop_no (A1 A2 : Option Addr) (n1 c1 n2 c2 : Nat) (r l : List Int) (w : World) (hr : Ints w A1 n1 r) (hl : Ints w A2 n2 l) (h : Wl.chk r l ≠ 0 ∨ n2 = 0) :
    Calls Try.prog 10 #[.agg #[.slice A1 n1 c1, .slice A2 n2 c2]] w (GetPop w 0 [] [] false) := by
  have HR := Lib.hid hr
  have HL := Lib.hid hl
  clear hr hl
  go_enter Try.func10, Try.ntmps10
  go_upto_region 1 with fail
  refine wp_named (fun W => ∃ b0 b1, w.heap.size = b0 ∧ w.heap.size + 1 = b1 ∧ Blk W b0 [.slice A1 n1 c1, .slice A2 n2 c2] ∧ Blk W b1 [.slice none 0 0, .slice none 0 0] ∧ Below w.heap.size w W) ⟨_, _, rfl, rfl, ?_, ?_, ?_⟩ ?_
  · exact (Blk.new _ _ _ _ (by first | rfl | simp)).alloc _
  · exact Blk.new _ _ _ _ (by first | rfl | simp)
  · go_grown
  rintro W ⟨b0, b1, e0, e1, B0, B1, hB⟩
  rw [e1, e0]
  have G0 : w.heap.size ≤ b0 := by omega
  have n01 : b0 ≠ b1 := by omega
  have G1 : w.heap.size ≤ b1 := by omega
  have n10 : b1 ≠ b0 := by omega
  clear e0 e1
  have ⟨L0, C0, F0⟩ := B0
  have ⟨L1, C1, F1⟩ := B1
  go_wp2_with fail
  refine (check_any _ _ _ _ _ _ r l _ (HR.out.later hB) (HL.out.later hB)).mono ?_
  rintro e w1 ⟨rfl, hb1⟩
  have hk1 : Kept [] W w1 := Kept.call (Kept.refl _ _) hb1
  have ⟨hc1, hf1, hg1⟩ := hk1.rules
  by_cases hz : Wl.chk r l = 0
  · obtain rfl : n2 = 0 := h.resolve_left (fun h => h hz)
    rw [hz]
    clear hz h
    go_wp2_with fail
    refine bodyPost_ret (by simp [results, Try.results10, go_sem, *]; rfl) rfl ?_
    have hkf := ((Kept.refl [b1] w1).set b1 0 (.slice none 0 0) (.inl (by simp))).set b1 1 (.slice none 0 0) (.inl (by simp))
    refine ⟨_, _, _, _, _, _, rfl, SIn.nil _, SIn.nil _, ?_, Fr.none _ _, Fr.none _ _⟩
    exact hkf.below (hk1.below hB hB.size (by simp)) (Nat.le_trans hB.size hk1.size) (by simpa using G1)
  · have hz' : (Wl.chk r l != 0) = true := by simpa using hz
    clear h
    go_wp2_with fail
    refine bodyPost_ret (by simp [results, Try.results10, go_sem, *]; rfl) rfl ?_
    have hkf := ((Kept.refl [b1] w1).set b1 0 (.slice none 0 0) (.inl (by simp))).set b1 1 (.slice none 0 0) (.inl (by simp))
    refine ⟨_, _, _, _, _, _, rfl, SIn.nil _, SIn.nil _, ?_, Fr.none _ _, Fr.none _ _⟩
    exact hkf.below (hk1.below hB hB.size (by simp)) (Nat.le_trans hB.size hk1.size) (by simpa using G1)
end Go.Proofs.Ythliphpcfnbmnaa
