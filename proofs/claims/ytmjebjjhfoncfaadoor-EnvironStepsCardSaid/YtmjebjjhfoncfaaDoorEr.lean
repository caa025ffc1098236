/- The contracts of the law's small and values. -/
import Derived.Test.YtmjebjjhfoncfaaDoorEn
namespace Go.Proofs.YtmjebjjhfoncfaaDoor
open Go.RowKit Go.Df
attribute [local go_sem ↓] Go.wp_at_zero Go.wp_at_succ
/-- A slice of values in memory. -/
def VRd (w : World) (A : Option Addr) (n : Nat) (f : Nat → Xf.V) : Prop := 0 < n → ∃ g, A = some ⟨g, 0, none⟩ ∧ Vals w g n f
theorem VRd.later {w w' : World} {A : Option Addr} {n : Nat} {f : Nat → Xf.V} (h : VRd w A n f) (hb : Below w.heap.size w w') : VRd w' A n f := fun h0 => by
  obtain ⟨g, e, hv⟩ := h h0
  exact ⟨g, e, hv.later hb⟩

set_option maxRecDepth 100000 in
set_option maxHeartbeats 4000000 in
theorem values_any (A B : Option Addr) (n c d : Nat) (f : Nat → Xf.V) (w : World) (hA : VRd w A n f) (hB : VRd w B n f) (hn : n ≤ 1000000) :
    Calls Tryd.prog 11 #[.slice A n c, .slice B n d] w fun e w' => e = .returned (.bool true) ∧ Below w.heap.size w w' := by
  have HA := Lib.hid hA
  have HB := Lib.hid hB
  clear hA hB
  go_enter Tryd.func11, Tryd.ntmps11
  go_wp2_with fail
  go_loopw [5] (fun i wr => ∃ j : Nat, j ≤ n ∧ i = .int .i64 j ∧ Kept [] w wr) (fun i _ => n - (intOf i).toNat)
  case atStart => exact ⟨0, Nat.zero_le _, rfl, Kept.refl _ _⟩
  case round =>
    obtain ⟨j, hj, rfl, hkr⟩ := hrel
    by_cases hlt : j < n
    · obtain ⟨g, rfl, va⟩ := HA.out (by omega)
      obtain ⟨h, rfl, vb⟩ := HB.out (by omega)
      have a0 := (hkr.cell g _ va.lt (by simp)).trans (va.c0 j hlt)
      have a1 := (hkr.cell g _ va.lt (by simp)).trans (va.c1 j hlt)
      have b0 := (hkr.cell h _ vb.lt (by simp)).trans (vb.c0 j hlt)
      have b1 := (hkr.cell h _ vb.lt (by simp)).trans (vb.c1 j hlt)
      have hg := Nat.lt_of_lt_of_le va.lt hkr.size
      have hh := Nat.lt_of_lt_of_le vb.lt hkr.size
      obtain ⟨⟨vk, vn⟩, hv⟩ : ∃ v, f j = v := ⟨_, rfl⟩
      rw [hv] at a0 a1 b0 b1
      clear va vb hv
      have hj1 : (j : Int) < (n : Int) := by omega
      go_upto_region 6 with fail
      go_quiet (fail)
      go_wp2_with fail
      exact ⟨⟨j + 1, by omega, by go_num, hkr.drewN _⟩, by simp [intOf]; omega⟩
    · obtain rfl : j = n := by omega
      go_wp2_with fail
      go_ret
      exact ⟨rfl, hkr.toBelow⟩

set_option maxRecDepth 100000 in
set_option maxHeartbeats 4000000 in
theorem small_any (A1 A2 A3 A4 : Option Addr) (n1 c1 n2 c2 n3 c3 n4 c4 : Nat) (mn F : Int) (ls : List (List Sp.Xp)) (w : World) (hf : Fls w A3 n3 ls) :
    Calls Tryd.prog 8 #[.agg #[.slice A1 n1 c1, .slice A2 n2 c2, .int .i64 mn, .int .i64 F, .slice A3 n3 c3, .slice A4 n4 c4]] w fun e w' => ∃ s, e = .returned (.bool s) ∧ (s = true → n3 ≤ 70 ∧ n4 ≤ 20 ∧ F ≤ 6) ∧ Below w.heap.size w w' := by
  have HF := Lib.hid hf
  clear hf
  go_enter Tryd.func8, Tryd.ntmps8
  go_upto_region 1 with fail
  refine wp_named (fun W => ∃ b0, w.heap.size = b0 ∧ Blk W b0 [.slice A1 n1 c1, .slice A2 n2 c2, .int .i64 mn, .int .i64 F, .slice A3 n3 c3, .slice A4 n4 c4] ∧ Below w.heap.size w W) ⟨_, rfl, ?_, ?_⟩ ?_
  · exact Blk.new _ _ _ _ (by first | rfl | simp)
  · go_grown
  rintro W ⟨b0, e0, B0, hB⟩
  rw [e0]
  have G0 : w.heap.size ≤ b0 := by omega
  clear e0
  have ⟨L0, C0, F0⟩ := B0
  have hkW : Kept [] w W := (Kept.refl _ _).call hB
  by_cases t1 : 36 < n1
  · have d1 : decide ((36 : Int) < n1) = true := by simp; omega
    go_wp2_with fail
    go_ret
    first | exact ⟨false, rfl, (fun h => by cases h), hB⟩ | exact Or.inl ⟨rfl, hB⟩
  have d1 : decide ((36 : Int) < n1) = false := by simp; omega
  by_cases t2 : 70 < n2
  · have d2 : decide ((70 : Int) < n2) = true := by simp; omega
    go_wp2_with fail
    go_ret
    first | exact ⟨false, rfl, (fun h => by cases h), hB⟩ | exact Or.inl ⟨rfl, hB⟩
  have d2 : decide ((70 : Int) < n2) = false := by simp; omega
  by_cases t3 : 6 < F
  · have d3 : decide (6 < F) = true := by simpa using t3
    go_wp2_with fail
    go_ret
    first | exact ⟨false, rfl, (fun h => by cases h), hB⟩ | exact Or.inl ⟨rfl, hB⟩
  have d3 : decide (6 < F) = false := by simpa using t3
  by_cases t4 : 70 < n3
  · have d4 : decide ((70 : Int) < n3) = true := by simp; omega
    go_wp2_with fail
    go_ret
    first | exact ⟨false, rfl, (fun h => by cases h), hB⟩ | exact Or.inl ⟨rfl, hB⟩
  have d4 : decide ((70 : Int) < n3) = false := by simp; omega
  by_cases t5 : 20 < n4
  · have d5 : decide ((20 : Int) < n4) = true := by simp; omega
    go_wp2_with fail
    go_ret
    first | exact ⟨false, rfl, (fun h => by cases h), hB⟩ | exact Or.inl ⟨rfl, hB⟩
  have d5 : decide ((20 : Int) < n4) = false := by simp; omega
  go_wp2_with fail
  go_loopw [3] (fun i wr => ∃ j : Nat, j ≤ n3 ∧ i = .int .i64 j ∧ Kept [] W wr) (fun i _ => n3 - (intOf i).toNat)
  case atStart => exact ⟨0, Nat.zero_le _, rfl, Kept.refl _ _⟩
  case round =>
    obtain ⟨j, hj, rfl, hkr⟩ := hrel
    have ⟨LR, CR, FR⟩ := hkr.blk (by simp) B0
    have hkwr : Kept [] w wr := keptTrans hkW hkr
    clear C0 F0
    by_cases hlt : j < n3
    · obtain ⟨b3, o3, Ai, ni, ci, rfl, hl3, hc3, -⟩ := HF.out.row hkwr.toBelow hlt
      have hl3r : b3 < wr.heap.size := Nat.lt_of_lt_of_le hl3 hkwr.size
      have hj1 : (j : Int) < (n3 : Int) := by omega
      by_cases t6 : 24 < ni
      · have d6 : decide ((24 : Int) < ni) = true := by simp; omega
        go_wp2_with fail
        go_ret
        exact ⟨false, rfl, (fun h => by cases h), hkwr.toBelow⟩
      · have d6 : decide ((24 : Int) < ni) = false := by simp; omega
        go_wp2_with fail
        exact ⟨⟨j + 1, by omega, by go_num, hkr⟩, by simp [intOf]; omega⟩
    · obtain rfl : j = n3 := by omega
      go_wp2_with fail
      go_ret
      exact ⟨true, rfl, fun _ => ⟨by omega, by omega, by omega⟩, hkwr.toBelow⟩
end Go.Proofs.YtmjebjjhfoncfaaDoor
