/- Drain, with all that is known of its result; plain laws of WorklistOnce. -/
import Derived.Test.YthliphpcfnbmnaaTl
namespace Go.Proofs.Ythliphpcfnbmnaa
open Go.RowKit Go.Df
attribute [local go_sem ↓] Go.wp_at_zero Go.wp_at_succ
/-- A slice of numbers comes back, and nothing that was there has turned. -/
def GetSIn (w : World) (xs : List Int) (e : Ending) (w' : World) : Prop := ∃ A n c, e = .returned (.slice A n c) ∧ SIn w' A n c xs ∧ Below w.heap.size w w'

set_option maxHeartbeats 400000 in
theorem drain_s (A1 A2 : Option Addr) (n1 c1 n2 c2 : Nat) (r l : List Int) (w : World) (hr : Ints w A1 n1 r) (hl : Ints w A2 n2 l) (hA : A2 = none → n2 = 0) :
    Calls Try.prog 15 #[.agg #[.slice A1 n1 c1, .slice A2 n2 c2]] w (GetSIn w (Wl.items r l)) := by
  have HR := Lib.hid hr
  have HL := Lib.hid hl
  clear hr hl
  go_enter Try.func15, Try.ntmps15
  go_upto_region 1 with fail
  refine wp_named (fun W => ∃ b0, w.heap.size = b0 ∧ Blk W b0 [.slice A1 n1 c1, .slice A2 n2 c2] ∧ Below w.heap.size w W) ⟨_, rfl, ?_, ?_⟩ ?_
  · exact Blk.new _ _ _ _ (by first | rfl | simp)
  · go_grown
  rintro W ⟨b0, e0, B0, hB⟩
  rw [e0]
  have G0 : w.heap.size ≤ b0 := by omega
  clear e0
  have ⟨L0, C0, F0⟩ := B0
  go_wp2_with fail
  refine (check_any _ _ _ _ _ _ r l _ (HR.out.later hB) (HL.out.later hB)).mono ?_
  rintro e w1 ⟨rfl, hb1⟩
  have hk1 : Kept [] W w1 := Kept.call (Kept.refl _ _) hb1
  have ⟨hc1, hf1, hg1⟩ := hk1.rules
  by_cases hz : Wl.chk r l = 0
  · have hsz : n2 ≤ 8192 := by
      rcases Nat.lt_or_ge 8192 n2 with h | h
      · have h1 := HL.out.1
        rw [Wl.chk, if_pos (by omega)] at hz; cases hz
      · exact h
    rw [hz]
    have HZ := Lib.hid hz
    have HA := Lib.hid hA
    clear hz hA
    go_wp2_with fail
    refine (clone_any _ _ _ l _ ((HL.out.later hB).kept hk1) (by omega) HA.out).mono ?_
    rintro e w2 ⟨v, rfl, hown, hb2⟩
    obtain ⟨A, c, hv, hi, hnil⟩ := SIn.of_own hown
    have hk2 : Kept [] W w2 := Kept.call hk1 hb2
    clear hown
    subst hv
    go_wp2_with fail
    go_ret
    exact ⟨_, _, _, rfl, by rw [Wl.items, if_pos HZ.out]; exact hi, Kept.below (X := []) hB hB.size (by simp) (by (repeat' first | (with_reducible assumption) | (with_reducible exact Kept.refl _ _) | (with_reducible refine Kept.alloc ?_ _) | (with_reducible refine Kept.call ?_ (by assumption)) | (with_reducible refine Kept.set ?_ _ _ _ (Or.inr ?_)) | (with_reducible refine Kept.drew ?_) | (simp; done) | omega | (simp; omega)))⟩
  · have hz' : (Wl.chk r l != 0) = true := by simpa using hz
    have HA := Lib.hid hA
    clear hA
    go_wp2_with fail
    go_ret
    exact ⟨_, _, _, rfl, by rw [Wl.items, if_neg hz]; exact SIn.nil _, Kept.below (X := []) hB hB.size (by simp) (by (repeat' first | (with_reducible assumption) | (with_reducible exact Kept.refl _ _) | (with_reducible refine Kept.alloc ?_ _) | (with_reducible refine Kept.call ?_ (by assumption)) | (with_reducible refine Kept.set ?_ _ _ _ (Or.inr ?_)) | (with_reducible refine Kept.drew ?_) | (simp; done) | omega | (simp; omega)))⟩

theorem Wl.pushed {r l : List Int} {x : Int} (h : Wl.perr r l x = 0) : Wl.pR r l x = r ∧ Wl.Valid r (Wl.pL r l x) ∧ x ∈ Wl.pL r l x ∧ Wl.allowed r.length x = true := by
  obtain ⟨hz, ha, s1, s2, s3⟩ := Wl.perr_ok h
  have hv := Wl.valid_of_chk hz
  refine ⟨by rw [Wl.pR, if_pos h], ?_, ?_, ha⟩
  · rw [Wl.pL, if_pos h]
    split
    · exact hv
    · rename_i hm; exact Wl.valid_ins hv ha hm (s3 hm)
  · rw [Wl.pL, if_pos h]
    split
    · assumption
    · exact Wl.mem_ins.2 (.inl rfl)
theorem Wl.again {r l : List Int} {x : Int} (hv : Wl.Valid r l) (ha : Wl.allowed r.length x = true) (hx : x ∈ l) : Wl.perr r l x = 0 ∧ Wl.pR r l x = r ∧ Wl.pL r l x = l := by
  have h0 : Wl.perr r l x = 0 := by unfold Wl.perr; rw [Wl.chk_of_valid hv, ha]; simp [hx]
  exact ⟨h0, by rw [Wl.pR, if_pos h0], by rw [Wl.pL, if_pos h0, if_pos hx]⟩
theorem Wl.popped {r l : List Int} (hv : Wl.Valid r l) (hl : 0 < l.length) : Wl.okP r l = true ∧ Wl.oX r l = gi l 0 ∧ Wl.oR r l = r ∧ Wl.oL r l = l.drop 1 := by
  have hk : Wl.okP r l = true := by simp [Wl.okP, Wl.chk_of_valid hv, hl]
  exact ⟨hk, by rw [Wl.oX, if_pos hk], by rw [Wl.oR, if_pos hk], by rw [Wl.oL, if_pos hk]⟩
theorem Wl.gone {r l : List Int} (hv : Wl.Valid r l) (hl : 0 < l.length) : gi l 0 ∉ l.drop 1 := by
  cases l with
  | nil => simp at hl
  | cons a l => simpa [gi] using (List.nodup_cons.1 hv.once).1
end Go.Proofs.Ythliphpcfnbmnaa
