/- Contracts of New. -/
import Derived.Test.YthliphpcfnbmnaaK
namespace Go.Proofs.Ythliphpcfnbmnaa
open Go.RowKit Go.Df
attribute [local go_sem ↓] Go.wp_at_zero Go.wp_at_succ
/-- A slice value of numbers, as it may lie in memory. -/
def SIn (w : World) (A : Option Addr) (n c : Nat) (xs : List Int) : Prop := Ints w A n xs ∧ n ≤ c ∧ c ≤ 9223372036854775807 ∧ (A = none → n = 0)
theorem SIn.later {w w1 : World} {A : Option Addr} {n c : Nat} {xs : List Int} (h : SIn w A n c xs) (hb : Below w.heap.size w w1) : SIn w1 A n c xs := ⟨h.1.later hb, h.2⟩
theorem SIn.kept {w w1 : World} {A : Option Addr} {n c : Nat} {xs : List Int} (h : SIn w A n c xs) (hb : Kept [] w w1) : SIn w1 A n c xs := ⟨h.1.kept hb, h.2⟩
theorem SIn.keptX {X : List Nat} {w w1 : World} {A : Option Addr} {n c : Nat} {xs : List Int} (h : SIn w A n c xs) (hk : Kept X w w1) (hx : 0 < n → ∀ a, A = some a → a.block ∉ X) : SIn w1 A n c xs :=
  ⟨⟨h.1.1, fun hn => by
    obtain ⟨b, o, e, hl, hc⟩ := h.1.2 hn
    have hb := hx hn _ e
    exact ⟨b, o, e, Nat.lt_of_lt_of_le hl hk.size, fun i hi => (hk.cell b (o + i) hl hb).trans (hc i hi)⟩⟩, h.2⟩
theorem SIn.lt {w : World} {A : Option Addr} {n c : Nat} {xs : List Int} (h : SIn w A n c xs) (hn : 0 < n) {a : Addr} (ha : A = some a) : a.block < w.heap.size := by
  obtain ⟨b, o, e, hl, _⟩ := h.1.2 hn
  rw [e] at ha; injection ha with ha; subst ha; exact hl
theorem SIn.nil (w : World) : SIn w none 0 0 [] := ⟨Ints.empty _ _, Nat.le_refl _, by omega, fun _ => rfl⟩
theorem SIn.of_own {w : World} {base : Nat} {e : TypeId} {v : Value} {n : Nat} {xs : List Int} (h : w.ownsRow base e 1 v n (xs.map (Value.int .i64))) : ∃ A c, v = .slice A n c ∧ SIn w A n c xs ∧ ∀ a, A = some a → base ≤ a.block ∧ a.block < w.heap.size := by
  obtain ⟨A, c, hv, hi, hn⟩ := Ints.of_own h
  refine ⟨A, c, hv, ⟨hi, ?_, ?_, hn⟩, ?_⟩
  · rcases h.2 with ⟨h1, h2⟩ | ⟨g, cap, cur, h1, _, _, h3, h4, _⟩
    · omega
    · rw [hv] at h1; injection h1 with _ _ h5; omega
  · rcases h.2 with ⟨h1, h2⟩ | ⟨g, cap, cur, h1, _, _, h3, h4, _⟩
    · rw [hv] at h1; injection h1 with _ _ h5; omega
    · rw [hv] at h1; injection h1 with _ _ h5; unfold maxLen at h4; omega
  · intro a ha
    subst ha
    refine ⟨own_ge h (by rw [hv]; rfl), ?_⟩
    rcases h.2 with ⟨h1, h2⟩ | ⟨g, cap, cur, h1, _, h3, _⟩
    · rw [hv] at h1; injection h1 with h1; cases h1
    · rw [hv] at h1; injection h1 with h1; injection h1 with h1; subst h1
      rcases Nat.lt_or_ge g w.heap.size with h4 | h4
      · exact h4
      · rw [Array.getElem?_eq_none h4] at h3; cases h3
/-- An address that is new. -/
def Fr (w w' : World) (A : Option Addr) : Prop := ∀ a, A = some a → w.heap.size ≤ a.block ∧ a.block < w'.heap.size
theorem Fr.none (w w' : World) : Fr w w' none := fun _ h => by cases h
/-- A worklist and an error come back. -/
def GetQE (w : World) (r l : List Int) (x : Int) (e : Ending) (w' : World) : Prop :=
  ∃ A1 n1 c1 A2 n2 c2, e = .returned (.tuple #[.agg #[.slice A1 n1 c1, .slice A2 n2 c2], .int .i64 x]) ∧ SIn w' A1 n1 c1 r ∧ SIn w' A2 n2 c2 l ∧ Below w.heap.size w w' ∧ Fr w w' A1 ∧ Fr w w' A2

set_option maxHeartbeats 400000 in
theorem new_ok (A : Option Addr) (n c : Nat) (r : List Int) (w : World) (hr : Ints w A n r) (hn : n ≤ 8192) (hA : A = none → n = 0) :
    Calls Try.prog 9 #[.slice A n c] w (GetQE w r [] 0) := by
  have h1 : decide ((8192 : Int) < n) = false := by simp; omega
  have HR := Lib.hid hr
  have HA := Lib.hid hA
  clear hr hA
  go_enter Try.func9, Try.ntmps9
  go_upto_region 1 with fail
  refine wp_named (fun W => ∃ b0, w.heap.size = b0 ∧ Blk W b0 [.slice none 0 0, .slice none 0 0] ∧ Below w.heap.size w W) ⟨_, rfl, ?_, ?_⟩ ?_
  · exact Blk.new _ _ _ _ (by first | rfl | simp)
  · go_grown
  rintro W ⟨b0, e0, B0, hB⟩
  rw [e0]
  have G0 : w.heap.size ≤ b0 := by omega
  clear e0
  have ⟨L0, C0, F0⟩ := B0
  go_wp2_with fail
  refine (clone_any _ _ _ r _ (HR.out.later hB) (by omega) HA.out).mono ?_
  rintro e w1 ⟨v, rfl, hown, hb1⟩
  obtain ⟨A', c', hv, hi, hge⟩ := SIn.of_own hown
  have hk1 : Kept [] W w1 := Kept.call (Kept.refl _ _) hb1
  have ⟨hc1, hf1, hg1⟩ := hk1.rules
  have ⟨L1, C1, F1⟩ := hk1.blk (by simp) B0
  clear hown
  subst hv
  go_wp2_with fail
  refine bodyPost_ret (by simp [results, Try.results9, go_sem, *]; rfl) rfl ?_
  have hkf := ((Kept.refl [b0] w1).set b0 0 (.slice A' n c') (.inl (by simp))).set b0 1 (.slice none 0 0) (.inl (by simp))
  refine ⟨_, _, _, _, _, _, rfl, hi.keptX hkf (fun _ a ha => ?_), SIn.nil _, ?_, fun a ha => ?_, Fr.none _ _⟩
  · have := hge a ha
    simp; omega
  · exact hkf.below (hk1.below hB hB.size (by simp)) (Nat.le_trans hB.size hk1.size) (by simpa using G0)
  · have t1 := hge a ha; have t2 := hB.size; have t3 := hkf.size; omega

set_option maxHeartbeats 400000 in
theorem new_long (A : Option Addr) (n c : Nat) (w : World) (hn : 8192 < n) :
    Calls Try.prog 9 #[.slice A n c] w (GetQE w [] [] 3) := by
  have h1 : decide ((8192 : Int) < n) = true := by simp; omega
  go_enter Try.func9, Try.ntmps9
  go_wp2
  go_returns
  exact ⟨_, _, _, _, _, _, rfl, SIn.nil _, SIn.nil _, by go_grown, Fr.none _ _, Fr.none _ _⟩
end Go.Proofs.Ythliphpcfnbmnaa
