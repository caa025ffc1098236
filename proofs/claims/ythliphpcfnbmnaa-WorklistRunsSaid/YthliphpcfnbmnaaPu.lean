/- Contracts of Push. -/
import Derived.Test.YthliphpcfnbmnaaIn
namespace Go.Proofs.Ythliphpcfnbmnaa
open Go.RowKit Go.Df
attribute [local go_sem ↓] Go.wp_at_zero Go.wp_at_succ
/-- The error of Push. -/
def Wl.perr (r l : List Int) (x : Int) : Int :=
  if Wl.chk r l ≠ 0 then Wl.chk r l else if Wl.allowed r.length x = false then 4 else if x ∉ l ∧ 8192 ≤ l.length then 3 else 0

set_option maxHeartbeats 400000 in
theorem push_bad (A1 A2 : Option Addr) (n1 c1 n2 c2 : Nat) (r l : List Int) (x : Int) (w : World) (hr : Ints w A1 n1 r) (hl : Ints w A2 n2 l) (hn : n2 ≤ 9223372036854775807) (h : Wl.perr r l x ≠ 0) :
    Calls Try.prog 13 #[.agg #[.slice A1 n1 c1, .slice A2 n2 c2], .int .i64 x] w (GetQE w [] [] (Wl.perr r l x)) := by
  have HR := Lib.hid hr
  have HL := Lib.hid hl
  have Hr := Lib.hid hr.1
  have Hl := Lib.hid hl.1
  clear hr hl
  go_enter Try.func13, Try.ntmps13
  go_upto_region 1 with fail
  refine wp_named (fun W => ∃ b0 b1, w.heap.size = b0 ∧ w.heap.size + 1 = b1 ∧ Blk W b0 [.slice A1 n1 c1, .slice A2 n2 c2] ∧ Blk W b1 [.slice none 0 0, .slice none 0 0] ∧ Below w.heap.size w W) ⟨_, _, rfl, rfl, ?_, ?_, ?_⟩ ?_
  · exact (Blk.new _ _ _ _ (by first | rfl | simp)).alloc _
  · exact Blk.new _ _ _ _ (by first | rfl | simp)
  · go_grown
  rintro W ⟨b0, b1, e0, e1, B0, B1, hB⟩
  rw [e1, e0]
  have G0 : w.heap.size ≤ b0 := by omega
  have n01 : b0 ≠ b1 := by omega
  have G1 : w.heap.size ≤ b1 := by omega
  have n10 : b1 ≠ b0 := by omega
  clear e0 e1
  have ⟨L0, C0, F0⟩ := B0
  have ⟨L1, C1, F1⟩ := B1
  go_wp2_with fail
  refine (check_any _ _ _ _ _ _ r l _ (HR.out.later hB) (HL.out.later hB)).mono ?_
  rintro e w1 ⟨rfl, hb1⟩
  have hk1 : Kept [] W w1 := Kept.call (Kept.refl _ _) hb1
  have ⟨hc1, hf1, hg1⟩ := hk1.rules
  by_cases hz : Wl.chk r l = 0
  · rw [hz]
    have HZ := Lib.hid hz
    clear hz
    go_wp2_with fail
    refine (allowed_any _ _ _ _ _ _ _ _).mono ?_
    rintro e w2 ⟨rfl, hb2⟩
    have hk2 : Kept [] W w2 := Kept.call hk1 hb2
    have ⟨hc2, hf2, hg2⟩ := hk2.rules
    by_cases ha : Wl.allowed n1 x = true
    · rw [ha]
      have HA := Lib.hid ha
      clear ha
      go_wp2_with fail
      refine (contains_any _ _ _ l _ _ ((HL.out.later hB).kept hk2) hn).mono ?_
      rintro e w3 ⟨rfl, rfl⟩
      by_cases hm : x ∈ l
      · exact absurd (by unfold Wl.perr; rw [HZ.out, Hr.out, HA.out]; simp [hm]) h
      · have hm' : decide (x ∈ l) = false := by simpa using hm
        rw [hm']
        have hge : 8192 ≤ n2 := by
          rcases Nat.lt_or_ge n2 8192 with h9 | h9
          · exact absurd (by unfold Wl.perr; rw [HZ.out, Hr.out, HA.out, Hl.out]; simp [hm]; omega) h
          · exact h9
        have he : Hid (Wl.perr r l x = 3) := by
          show Wl.perr r l x = 3
          unfold Wl.perr; rw [HZ.out, Hr.out, HA.out, Hl.out]; simp [hm, hge]
        have hd : decide ((8192 : Int) ≤ n2) = true := by simp; omega
        clear hm hm' h
        go_wp2_with fail
        refine bodyPost_ret (by simp [results, Try.results13, go_sem, *]; rfl) rfl ?_
        rw [he.out]
        have hkf := ((Kept.refl [b1] w2).set b1 0 (.slice none 0 0) (.inl (by simp))).set b1 1 (.slice none 0 0) (.inl (by simp))
        refine ⟨_, _, _, _, _, _, rfl, SIn.nil _, SIn.nil _, ?_, Fr.none _ _, Fr.none _ _⟩
        exact hkf.below (hk2.below hB hB.size (by simp)) (Nat.le_trans hB.size hk2.size) (by simpa using G1)
    · rw [Bool.not_eq_true] at ha
      have he : Hid (Wl.perr r l x = 4) := by
        show Wl.perr r l x = 4
        unfold Wl.perr; rw [HZ.out, Hr.out, ha]; simp
      rw [ha]
      clear h
      go_wp2_with fail
      refine bodyPost_ret (by simp [results, Try.results13, go_sem, *]; rfl) rfl ?_
      rw [he.out]
      have hkf := ((Kept.refl [b1] w2).set b1 0 (.slice none 0 0) (.inl (by simp))).set b1 1 (.slice none 0 0) (.inl (by simp))
      refine ⟨_, _, _, _, _, _, rfl, SIn.nil _, SIn.nil _, ?_, Fr.none _ _, Fr.none _ _⟩
      exact hkf.below (hk2.below hB hB.size (by simp)) (Nat.le_trans hB.size hk2.size) (by simpa using G1)
  · have hz' : (Wl.chk r l != 0) = true := by simpa using hz
    have he : Hid (Wl.perr r l x = Wl.chk r l) := by
      show Wl.perr r l x = _
      unfold Wl.perr; rw [if_pos hz]
    clear h
    go_wp2_with fail
    refine bodyPost_ret (by simp [results, Try.results13, go_sem, *]; rfl) rfl ?_
    rw [he.out]
    have hkf := ((Kept.refl [b1] w1).set b1 0 (.slice none 0 0) (.inl (by simp))).set b1 1 (.slice none 0 0) (.inl (by simp))
    refine ⟨_, _, _, _, _, _, rfl, SIn.nil _, SIn.nil _, ?_, Fr.none _ _, Fr.none _ _⟩
    exact hkf.below (hk1.below hB hB.size (by simp)) (Nat.le_trans hB.size hk1.size) (by simpa using G1)
end Go.Proofs.Ythliphpcfnbmnaa
