/- Contracts of the reference's Pop. -/
import Derived.Test.YthliphpcfnbmnaaLc
namespace Go.Proofs.Ythliphpcfnbmnaa
open Go.RowKit Go.Df
attribute [local go_sem ↓] Go.wp_at_zero Go.wp_at_succ
/-- A worklist and an error come back, from a function that may share. -/
def GetQE0 (w : World) (r l : List Int) (x : Int) (e : Ending) (w' : World) : Prop :=
  ∃ A1 n1 c1 A2 n2 c2, e = .returned (.tuple #[.agg #[.slice A1 n1 c1, .slice A2 n2 c2], .int .i64 x]) ∧ SIn w' A1 n1 c1 r ∧ SIn w' A2 n2 c2 l ∧ Below w.heap.size w w'
def GetPop0 (w : World) (x : Int) (r l : List Int) (ok : Bool) (e : Ending) (w' : World) : Prop :=
  ∃ A1 n1 c1 A2 n2 c2, e = .returned (.tuple #[.int .i64 x, .agg #[.slice A1 n1 c1, .slice A2 n2 c2], .bool ok]) ∧ SIn w' A1 n1 c1 r ∧ SIn w' A2 n2 c2 l ∧ Below w.heap.size w w'

set_option maxHeartbeats 400000 in
theorem rpop_no (A1 A2 : Option Addr) (n1 c1 n2 c2 : Nat) (r l : List Int) (w : World) (hr : Ints w A1 n1 r) (hl : Ints w A2 n2 l) (hcap : n2 ≤ c2) (h : Wl.chk r l ≠ 0 ∨ n2 = 0) :
    Calls Try.prog 21 #[.agg #[.slice A1 n1 c1, .slice A2 n2 c2]] w (GetPop0 w 0 [] [] false) := by
  have HR := Lib.hid hr
  have HL := Lib.hid hl
  clear hr hl
  go_enter Try.func21, Try.ntmps21
  go_upto_region 1 with fail
  refine wp_named (fun W => ∃ b0 b1, w.heap.size = b0 ∧ w.heap.size + 1 = b1 ∧ Blk W b0 [.slice A1 n1 c1, .slice A2 n2 c2] ∧ Blk W b1 [.slice none 0 0, .slice none 0 0] ∧ Below w.heap.size w W) ⟨_, _, rfl, rfl, ?_, ?_, ?_⟩ ?_
  · exact (Blk.new _ _ _ _ (by first | rfl | simp)).alloc _
  · exact Blk.new _ _ _ _ (by first | rfl | simp)
  · go_grown
  rintro W ⟨b0, b1, e0, e1, B0, B1, hB⟩
  rw [e1, e0]
  have G0 : w.heap.size ≤ b0 := by omega
  have n01 : b0 ≠ b1 := by omega
  have G1 : w.heap.size ≤ b1 := by omega
  have n10 : b1 ≠ b0 := by omega
  clear e0 e1
  have ⟨L0, C0, F0⟩ := B0
  have ⟨L1, C1, F1⟩ := B1
  go_wp2_with fail
  refine (rcheck_any _ _ _ _ _ _ r l _ (HR.out.later hB) (HL.out.later hB) hcap).mono ?_
  rintro e w1 ⟨rfl, hb1⟩
  have hk1 : Kept [] W w1 := Kept.call (Kept.refl _ _) hb1
  have ⟨hc1, hf1, hg1⟩ := hk1.rules
  by_cases hz : Wl.chk r l = 0
  · obtain rfl : n2 = 0 := h.resolve_left (fun h => h hz)
    rw [hz]
    clear hz h
    go_wp2_with fail
    refine bodyPost_ret (by simp [results, Try.results21, go_sem, *]; rfl) rfl ?_
    have hkf := ((Kept.refl [b1] w1).set b1 0 (.slice none 0 0) (.inl (by simp))).set b1 1 (.slice none 0 0) (.inl (by simp))
    refine ⟨_, _, _, _, _, _, rfl, SIn.nil _, SIn.nil _, ?_⟩
    exact hkf.below (hk1.below hB hB.size (by simp)) (Nat.le_trans hB.size hk1.size) (by simpa using G1)
  · have hz' : (Wl.chk r l != 0) = true := by simpa using hz
    clear h
    go_wp2_with fail
    refine bodyPost_ret (by simp [results, Try.results21, go_sem, *]; rfl) rfl ?_
    have hkf := ((Kept.refl [b1] w1).set b1 0 (.slice none 0 0) (.inl (by simp))).set b1 1 (.slice none 0 0) (.inl (by simp))
    refine ⟨_, _, _, _, _, _, rfl, SIn.nil _, SIn.nil _, ?_⟩
    exact hkf.below (hk1.below hB hB.size (by simp)) (Nat.le_trans hB.size hk1.size) (by simpa using G1)

set_option maxHeartbeats 400000 in
theorem rpop_yes (A1 A2 : Option Addr) (n1 c1 n2 c2 : Nat) (r l : List Int) (w : World) (hr : SIn w A1 n1 c1 r) (hl : SIn w A2 n2 c2 l) (h : Wl.chk r l = 0) (hp : 0 < n2) :
    Calls Try.prog 21 #[.agg #[.slice A1 n1 c1, .slice A2 n2 c2]] w (GetPop0 w (gi l 0) r (l.drop 1) true) := by
  have HX1 := Lib.hid hr
  obtain ⟨hr1, hr2, hr3, hr4⟩ := hr
  obtain ⟨hl1, hl2, hl3, hl4⟩ := hl
  have hs2 : n2 ≤ 8192 := by
    have h1 := hl1.1
    rw [Wl.chk] at h
    split at h
    · omega
    · omega
  have HR := Lib.hid hr1
  have HL := Lib.hid hl1
  have Hl := Lib.hid hl1.1
  have HZ := Lib.hid h
  have HA := Lib.hid hr4
  obtain ⟨b, o, rfl, hlt, hc⟩ := hl1.at_ hp
  have HC := Lib.hid hc
  clear hr1 hl1 h hr4 hl4 hc
  go_enter Try.func21, Try.ntmps21
  go_upto_region 1 with fail
  refine wp_named (fun W => ∃ b0 b1, w.heap.size = b0 ∧ w.heap.size + 1 = b1 ∧ Blk W b0 [.slice A1 n1 c1, .slice (some ⟨b, o, none⟩) n2 c2] ∧ Blk W b1 [.slice none 0 0, .slice none 0 0] ∧ Below w.heap.size w W) ⟨_, _, rfl, rfl, ?_, ?_, ?_⟩ ?_
  · exact (Blk.new _ _ _ _ (by first | rfl | simp)).alloc _
  · exact Blk.new _ _ _ _ (by first | rfl | simp)
  · go_grown
  rintro W ⟨b0, b1, e0, e1, B0, B1, hB⟩
  rw [e1, e0]
  have G0 : w.heap.size ≤ b0 := by omega
  have n01 : b0 ≠ b1 := by omega
  have G1 : w.heap.size ≤ b1 := by omega
  have n10 : b1 ≠ b0 := by omega
  clear e0 e1
  have ⟨L0, C0, F0⟩ := B0
  have ⟨L1, C1, F1⟩ := B1
  go_wp2_with fail
  refine (rcheck_any _ _ _ _ _ _ r l _ (HR.out.later hB) (HL.out.later hB) hl2).mono ?_
  rintro e w1 ⟨rfl, hb1⟩
  rw [HZ.out]
  have hk1 : Kept [] W w1 := Kept.call (Kept.refl _ _) hb1
  have z1 : ((n2 : Int) == 0) = false := by simp; omega
  have z2 : ¬ ((n2 : Int) = 0) := by omega
  have BV0 := hk1.blk (by simp) B0
  have BV1 := hk1.blk (by simp) B1
  have ⟨L0v, C0v, F0v⟩ := BV0
  have ⟨L1v, C1v, F1v⟩ := BV1
  have hlt2 : b < W.heap.size := by have := hB.size; omega
  have HC2 : Hid (∀ i, i < n2 → w1.cell? ⟨b, o + i, none⟩ = some (.int .i64 (gi l i))) := fun i hi => by
    rw [hk1.cell b _ hlt2 (by simp), hB.cell (p := ⟨b, o + i, none⟩) hlt]; exact HC.out i hi
  have hcv : w1.cell? ⟨b, o, none⟩ = some (.int .i64 (gi l 0)) := HC2.out 0 hp
  clear C0 F0 C1 F1
  have hne : Hid (∀ Wf, Kept [b1] w1 Wf → (SIn Wf A1 n1 c1 r ∧ ∀ i, i < n2 → Wf.cell? ⟨b, o + i, none⟩ = some (.int .i64 (gi l i)))) := by
    intro Wf hkf
    refine ⟨SIn.keptX ⟨(HR.out.later hB).kept hk1, hr2, hr3, HA.out⟩ hkf (fun hp a ha => ?_), fun i hi => ?_⟩
    · have := HX1.out.lt hp ha
      simp; omega
    · rw [hkf.cell b _ (Nat.lt_of_lt_of_le hlt2 hk1.size) (by simp; omega)]; exact HC2.out i hi
  by_cases hcc : c2 = 1
  · obtain rfl : n2 = 1 := by omega
    subst hcc
    go_wp2_with fail
    go_region
    refine then_named (fun Wf => Kept [b1] w1 Wf ∧ Blk Wf b1 [.slice A1 n1 c1, .slice (some ⟨b, o, none⟩) 0 0]) ⟨?_, ?_⟩ ?_
    · repeat' first | (with_reducible exact Kept.refl _ _) | (with_reducible refine Kept.drew ?_) | (with_reducible refine Kept.set ?_ _ _ _ (Or.inl ?_)) | (simp; done)
    · first | exact Blk.set2 (BV1.n rfl) | exact Blk.drew (Blk.set2 (BV1.n rfl))
    rintro Wf ⟨hkf, ⟨L1f, C1f, F1f⟩⟩
    go_wp2_with fail
    refine bodyPost_ret (by simp [results, Try.results21, go_sem, C1f]; rfl) rfl ?_
    obtain ⟨hq1, hq2⟩ := hne.out Wf hkf
    have hl0 : l.drop 1 = [] := List.eq_nil_of_length_eq_zero (by rw [List.length_drop, Hl.out])
    refine ⟨_, _, _, _, _, _, rfl, hq1, ?_, hkf.below (hk1.below hB hB.size (by simp)) (Nat.le_trans hB.size hk1.size) (by simpa using G1)⟩
    rw [hl0]
    exact ⟨Ints.empty _ _, Nat.le_refl _, by omega, fun h => by cases h⟩
  · have c1' : ¬ ((c2 : Int) = 1) := by omega
    have c2' : 1 ≤ n2 := by omega
    have c3' : 1 ≤ c2 := by omega
    go_wp2_with fail
    go_region
    refine then_named (fun Wf => Kept [b1] w1 Wf ∧ Blk Wf b1 [.slice A1 n1 c1, .slice (some ⟨b, o + 1, none⟩) (n2 - 1) (c2 - 1)]) ⟨?_, ?_⟩ ?_
    · repeat' first | (with_reducible exact Kept.refl _ _) | (with_reducible refine Kept.drew ?_) | (with_reducible refine Kept.set ?_ _ _ _ (Or.inl ?_)) | (simp; done)
    · first | exact Blk.set2 (BV1.n rfl) | exact Blk.drew (Blk.set2 (BV1.n rfl))
    rintro Wf ⟨hkf, ⟨L1f, C1f, F1f⟩⟩
    go_wp2_with fail
    refine bodyPost_ret (by simp [results, Try.results21, go_sem, C1f]; rfl) rfl ?_
    obtain ⟨hq1, hq2⟩ := hne.out Wf hkf
    refine ⟨_, _, _, _, _, _, rfl, hq1, ⟨⟨by rw [List.length_drop, Hl.out], fun _ => ⟨b, o + 1, rfl, Nat.lt_of_lt_of_le hlt2 (Nat.le_trans hk1.size hkf.size), fun i hi => ?_⟩⟩, by omega, by omega, fun h => by cases h⟩, hkf.below (hk1.below hB hB.size (by simp)) (Nat.le_trans hB.size hk1.size) (by simpa using G1)⟩
    rw [show o + 1 + i = o + (1 + i) by omega, hq2 (1 + i) (by omega), gi_lt (by rw [Hl.out]; omega), gi_lt (by rw [List.length_drop, Hl.out]; omega), List.getElem_drop]
end Go.Proofs.Ythliphpcfnbmnaa
