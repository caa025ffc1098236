/- Contracts of Len, Has, Drain, New. -/
import Derived.Test.YthliphpcfnbmnaaH
namespace Go.Proofs.Ythliphpcfnbmnaa
open Go.RowKit Go.Df
attribute [local go_sem ↓] Go.wp_at_zero Go.wp_at_succ
/-- The number of items of a valid worklist. -/
def Wl.size (r l : List Int) : Int := if Wl.chk r l = 0 then (l.length : Int) else 0
/-- The items of a valid worklist. -/
def Wl.items (r l : List Int) : List Int := if Wl.chk r l = 0 then l else []
/-- A slice of numbers comes back, and nothing that was there has turned. -/
def GetInts (w : World) (xs : List Int) (e : Ending) (w' : World) : Prop := ∃ A n c, e = .returned (.slice A n c) ∧ Ints w' A n xs ∧ (A = none → n = 0) ∧ Below w.heap.size w w'

set_option maxHeartbeats 400000 in
theorem len_any (A1 A2 : Option Addr) (n1 c1 n2 c2 : Nat) (r l : List Int) (w : World) (hr : Ints w A1 n1 r) (hl : Ints w A2 n2 l) :
    Calls Try.prog 14 #[.agg #[.slice A1 n1 c1, .slice A2 n2 c2]] w fun e w' => e = .returned (.int .i64 (Wl.size r l)) ∧ Below w.heap.size w w' := by
  have Hn := Lib.hid hl.1
  have HR := Lib.hid hr
  have HL := Lib.hid hl
  clear hr hl
  go_enter Try.func14, Try.ntmps14
  go_upto_region 1 with fail
  refine wp_named (fun W => ∃ b0, w.heap.size = b0 ∧ Blk W b0 [.slice A1 n1 c1, .slice A2 n2 c2] ∧ Below w.heap.size w W) ⟨_, rfl, ?_, ?_⟩ ?_
  · exact Blk.new _ _ _ _ (by first | rfl | simp)
  · go_grown
  rintro W ⟨b0, e0, B0, hB⟩
  rw [e0]
  have G0 : w.heap.size ≤ b0 := by omega
  clear e0
  have ⟨L0, C0, F0⟩ := B0
  go_wp2_with fail
  refine (check_any _ _ _ _ _ _ r l _ (HR.out.later hB) (HL.out.later hB)).mono ?_
  rintro e w1 ⟨rfl, hb1⟩
  have hk1 : Kept [] W w1 := Kept.call (Kept.refl _ _) hb1
  have ⟨hc1, hf1, hg1⟩ := hk1.rules
  by_cases hz : Wl.chk r l = 0
  · rw [hz]
    have HZ := Lib.hid hz
    clear hz
    go_wp2_with fail
    go_ret
    exact ⟨ret_int (by rw [Wl.size, if_pos HZ.out, Hn.out]), Kept.below (X := []) hB hB.size (by simp) (by (repeat' first | (with_reducible assumption) | (with_reducible exact Kept.refl _ _) | (with_reducible refine Kept.alloc ?_ _) | (with_reducible refine Kept.call ?_ (by assumption)) | (with_reducible refine Kept.set ?_ _ _ _ (Or.inr ?_)) | (with_reducible refine Kept.drew ?_) | (simp; done) | omega | (simp; omega)))⟩
  · have hz' : (Wl.chk r l != 0) = true := by simpa using hz
    go_wp2_with fail
    go_ret
    exact ⟨ret_int (by rw [Wl.size, if_neg hz]), Kept.below (X := []) hB hB.size (by simp) (by (repeat' first | (with_reducible assumption) | (with_reducible exact Kept.refl _ _) | (with_reducible refine Kept.alloc ?_ _) | (with_reducible refine Kept.call ?_ (by assumption)) | (with_reducible refine Kept.set ?_ _ _ _ (Or.inr ?_)) | (with_reducible refine Kept.drew ?_) | (simp; done) | omega | (simp; omega)))⟩

set_option maxHeartbeats 400000 in
theorem has_any (A1 A2 : Option Addr) (n1 c1 n2 c2 : Nat) (r l : List Int) (x : Int) (w : World) (hr : Ints w A1 n1 r) (hl : Ints w A2 n2 l) (hn : n2 ≤ 9223372036854775807) :
    Calls Try.prog 22 #[.agg #[.slice A1 n1 c1, .slice A2 n2 c2], .int .i64 x] w fun e w' => e = .returned (.bool (decide (Wl.chk r l = 0) && decide (x ∈ l))) ∧ Below w.heap.size w w' := by
  have HR := Lib.hid hr
  have HL := Lib.hid hl
  clear hr hl
  go_enter Try.func22, Try.ntmps22
  go_upto_region 1 with fail
  refine wp_named (fun W => ∃ b0, w.heap.size = b0 ∧ Blk W b0 [.slice A1 n1 c1, .slice A2 n2 c2] ∧ Below w.heap.size w W) ⟨_, rfl, ?_, ?_⟩ ?_
  · exact Blk.new _ _ _ _ (by first | rfl | simp)
  · go_grown
  rintro W ⟨b0, e0, B0, hB⟩
  rw [e0]
  have G0 : w.heap.size ≤ b0 := by omega
  clear e0
  have ⟨L0, C0, F0⟩ := B0
  go_wp2_with fail
  refine (check_any _ _ _ _ _ _ r l _ (HR.out.later hB) (HL.out.later hB)).mono ?_
  rintro e w1 ⟨rfl, hb1⟩
  have hk1 : Kept [] W w1 := Kept.call (Kept.refl _ _) hb1
  have ⟨hc1, hf1, hg1⟩ := hk1.rules
  by_cases hz : Wl.chk r l = 0
  · rw [hz]
    have HZ := Lib.hid hz
    clear hz
    go_wp2_with fail
    refine (contains_any _ _ _ l _ _ ((HL.out.later hB).kept hk1) hn).mono ?_
    rintro e w2 ⟨rfl, rfl⟩
    go_wp2_with fail
    go_ret
    exact ⟨ret_bool (by rw [HZ.out]; simp), Kept.below (X := []) hB hB.size (by simp) (by (repeat' first | (with_reducible assumption) | (with_reducible exact Kept.refl _ _) | (with_reducible refine Kept.alloc ?_ _) | (with_reducible refine Kept.call ?_ (by assumption)) | (with_reducible refine Kept.set ?_ _ _ _ (Or.inr ?_)) | (with_reducible refine Kept.drew ?_) | (simp; done) | omega | (simp; omega)))⟩
  · have hz' : (Wl.chk r l == 0) = false := by simpa using hz
    go_wp2_with fail
    go_ret
    exact ⟨ret_bool (by simp [hz]), Kept.below (X := []) hB hB.size (by simp) (by (repeat' first | (with_reducible assumption) | (with_reducible exact Kept.refl _ _) | (with_reducible refine Kept.alloc ?_ _) | (with_reducible refine Kept.call ?_ (by assumption)) | (with_reducible refine Kept.set ?_ _ _ _ (Or.inr ?_)) | (with_reducible refine Kept.drew ?_) | (simp; done) | omega | (simp; omega)))⟩

set_option maxHeartbeats 400000 in
theorem drain_any (A1 A2 : Option Addr) (n1 c1 n2 c2 : Nat) (r l : List Int) (w : World) (hr : Ints w A1 n1 r) (hl : Ints w A2 n2 l) (hA : A2 = none → n2 = 0) :
    Calls Try.prog 15 #[.agg #[.slice A1 n1 c1, .slice A2 n2 c2]] w (GetInts w (Wl.items r l)) := by
  have HR := Lib.hid hr
  have HL := Lib.hid hl
  clear hr hl
  go_enter Try.func15, Try.ntmps15
  go_upto_region 1 with fail
  refine wp_named (fun W => ∃ b0, w.heap.size = b0 ∧ Blk W b0 [.slice A1 n1 c1, .slice A2 n2 c2] ∧ Below w.heap.size w W) ⟨_, rfl, ?_, ?_⟩ ?_
  · exact Blk.new _ _ _ _ (by first | rfl | simp)
  · go_grown
  rintro W ⟨b0, e0, B0, hB⟩
  rw [e0]
  have G0 : w.heap.size ≤ b0 := by omega
  clear e0
  have ⟨L0, C0, F0⟩ := B0
  go_wp2_with fail
  refine (check_any _ _ _ _ _ _ r l _ (HR.out.later hB) (HL.out.later hB)).mono ?_
  rintro e w1 ⟨rfl, hb1⟩
  have hk1 : Kept [] W w1 := Kept.call (Kept.refl _ _) hb1
  have ⟨hc1, hf1, hg1⟩ := hk1.rules
  by_cases hz : Wl.chk r l = 0
  · have hsz : n2 ≤ 8192 := by
      rcases Nat.lt_or_ge 8192 n2 with h | h
      · have h1 := HL.out.1
        rw [Wl.chk, if_pos (by omega)] at hz; cases hz
      · exact h
    rw [hz]
    have HZ := Lib.hid hz
    have HA := Lib.hid hA
    clear hz hA
    go_wp2_with fail
    refine (clone_any _ _ _ l _ ((HL.out.later hB).kept hk1) (by omega) HA.out).mono ?_
    rintro e w2 ⟨v, rfl, hown, hb2⟩
    obtain ⟨A, c, hv, hi, hnil⟩ := Ints.of_own hown
    have hk2 : Kept [] W w2 := Kept.call hk1 hb2
    clear hown
    subst hv
    go_wp2_with fail
    go_ret
    exact ⟨_, _, _, rfl, by rw [Wl.items, if_pos HZ.out]; exact hi, hnil, Kept.below (X := []) hB hB.size (by simp) (by (repeat' first | (with_reducible assumption) | (with_reducible exact Kept.refl _ _) | (with_reducible refine Kept.alloc ?_ _) | (with_reducible refine Kept.call ?_ (by assumption)) | (with_reducible refine Kept.set ?_ _ _ _ (Or.inr ?_)) | (with_reducible refine Kept.drew ?_) | (simp; done) | omega | (simp; omega)))⟩
  · have hz' : (Wl.chk r l != 0) = true := by simpa using hz
    have HA := Lib.hid hA
    clear hA
    go_wp2_with fail
    go_ret
    exact ⟨_, _, _, rfl, by rw [Wl.items, if_neg hz]; exact Ints.empty _ _, fun _ => rfl, Kept.below (X := []) hB hB.size (by simp) (by (repeat' first | (with_reducible assumption) | (with_reducible exact Kept.refl _ _) | (with_reducible refine Kept.alloc ?_ _) | (with_reducible refine Kept.call ?_ (by assumption)) | (with_reducible refine Kept.set ?_ _ _ _ (Or.inr ?_)) | (with_reducible refine Kept.drew ?_) | (simp; done) | omega | (simp; omega)))⟩
end Go.Proofs.Ythliphpcfnbmnaa
