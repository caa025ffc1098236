/- The plain functions of package worklist. -/
import Derived.Test.YthliphpcfnbmnaaLib2
namespace Go.Proofs.Ythliphpcfnbmnaa.Wl
open Go.Df
/-- May x be an item, with a rank of n elements? -/
def allowed (n : Nat) (x : Int) : Bool := if 0 < n then decide (0 ≤ x) && decide (x < n) else decide (0 ≤ x) && decide (x < 65536)
/-- Does x precede y? -/
def before (r : List Int) (x y : Int) : Bool := if gi r x.toNat = gi r y.toNat then decide (x < y) else decide (gi r x.toNat < gi r y.toNat)
/-- The first index from k on at which x stands in l, or -1. -/
def index (l : List Int) (x : Int) : Int := if x ∈ l then (l.idxOf x : Int) else -1
theorem index_hit {l : List Int} {x : Int} {k : Nat} (h : ∀ j, j < k → gi l j ≠ x) (hk : k < l.length) (e : gi l k = x) : index l x = k := by
  rw [gi_lt hk] at e
  have hm : x ∈ l := e ▸ List.getElem_mem hk
  have h1 : l.idxOf x = k := by
    have hlt : l.idxOf x < l.length := List.idxOf_lt_length_of_mem hm
    have h2 : l[l.idxOf x] = x := List.getElem_idxOf hlt
    rcases Nat.lt_trichotomy (l.idxOf x) k with h3 | h3 | h3
    · exact absurd ((gi_lt hlt).trans h2) (h _ h3)
    · exact h3
    · have := List.not_of_lt_findIdx (p := (· == x)) (xs := l) (i := k) h3
      simp [e] at this
  simp [index, hm, h1]
theorem index_miss {l : List Int} {x : Int} (h : ∀ j, j < l.length → gi l j ≠ x) : index l x = -1 := by
  have hm : x ∉ l := by
    intro hm
    obtain ⟨j, hj, e⟩ := List.getElem_of_mem hm
    exact h j hj ((gi_lt hj).trans e)
  simp [index, hm]
theorem index_nonneg (l : List Int) (x : Int) : (0 ≤ index l x) ↔ x ∈ l := by
  unfold index; split <;> simp_all
/-- Two lists of one length agree. -/
theorem eq_of_gi {a b : List Int} (hl : a.length = b.length) (h : ∀ j, j < a.length → gi a j = gi b j) : a = b := by
  apply List.ext_getElem hl
  intro j h1 h2
  rw [← gi_lt h1, ← gi_lt h2, h j h1]
/-- What is left of the first k elements without x. -/
def wo (l : List Int) (x : Int) (k : Nat) : List Int := (l.take k).filter (fun y => y != x)
theorem take_snoc {l : List Int} {k : Nat} (hk : k < l.length) : l.take (k + 1) = l.take k ++ [gi l k] := by
  rw [List.take_succ_eq_append_getElem hk, gi_lt hk]
theorem wo_keep {l : List Int} {x : Int} {k : Nat} (hk : k < l.length) (h : (gi l k != x) = true) : wo l x (k + 1) = wo l x k ++ [gi l k] := by
  unfold wo; rw [take_snoc hk, List.filter_append]; simp [h]
theorem wo_drop {l : List Int} {x : Int} {k : Nat} (hk : k < l.length) (h : (gi l k != x) = false) : wo l x (k + 1) = wo l x k := by
  unfold wo; rw [take_snoc hk, List.filter_append]; simp [h]
theorem wo_le (l : List Int) (x : Int) (k : Nat) : (wo l x k).length ≤ k :=
  Nat.le_trans (List.length_filter_le _ _) (List.length_take_le _ _)
/-- A list without an item. -/
def without (l : List Int) (x : Int) : List Int := l.filter (fun y => y != x)
theorem wo_all {l : List Int} {x : Int} {k : Nat} (hk : l.length ≤ k) : wo l x k = without l x := by
  unfold wo without; rw [List.take_of_length_le hk]
/-- The error of the item at k: out of range, seen before, out of order; 0 if there is none. -/
def err (r l : List Int) (k : Nat) : Int :=
  if allowed r.length (gi l k) = false then 4 else if gi l k ∈ l.take k then 7
  else if 0 < r.length ∧ 0 < k ∧ before r (gi l k) (gi l (k - 1)) = true then 13 else 0
/-- The first error of the items from k on, n of them. -/
def errs (r l : List Int) : Nat → Nat → Int
  | _, 0 => 0
  | k, n + 1 => if err r l k = 0 then errs r l (k + 1) n else err r l k
/-- The error of a worklist. -/
def chk (r l : List Int) : Int := if 8192 < r.length ∨ 8192 < l.length then 3 else errs r l 0 l.length
theorem errs_hit {r l : List Int} (n : Nat) : ∀ (k j : Nat), (∀ i, k ≤ i → i < j → err r l i = 0) → k ≤ j → j < k + n → err r l j ≠ 0 → errs r l k n = err r l j := by
  induction n with
  | zero => intro k j _ h1 h2; omega
  | succ n ih =>
    intro k j h h1 h2 h3
    rw [errs]
    rcases Nat.lt_or_ge k j with h4 | h4
    · rw [if_pos (h k (Nat.le_refl _) h4)]
      exact ih (k + 1) j (fun i hi hj => h i (by omega) hj) (by omega) (by omega) h3
    · obtain rfl : k = j := by omega
      rw [if_neg h3]
theorem errs_ok {r l : List Int} (n : Nat) : ∀ k, (∀ i, k ≤ i → i < k + n → err r l i = 0) → errs r l k n = 0 := by
  induction n with
  | zero => intro k _; rfl
  | succ n ih =>
    intro k h
    rw [errs, if_pos (h k (Nat.le_refl _) (by omega))]
    exact ih (k + 1) (fun i hi hj => h i (by omega) (by omega))
theorem chk_hit {r l : List Int} {k : Nat} {e : Int} (hr : r.length ≤ 8192) (hl : l.length ≤ 8192) (h : ∀ j, j < k → err r l j = 0) (hk : k < l.length) (he : err r l k = e) (h0 : e ≠ 0) : chk r l = e := by
  subst he
  rw [chk, if_neg (by omega)]
  exact errs_hit _ 0 k (fun i _ hi => h i hi) (Nat.zero_le _) (by omega) h0
theorem chk_ok {r l : List Int} (hr : r.length ≤ 8192) (hl : l.length ≤ 8192) (h : ∀ j, j < l.length → err r l j = 0) : chk r l = 0 := by
  rw [chk, if_neg (by omega)]
  exact errs_ok _ 0 (fun i _ hi => h i (by omega))
theorem allowed_lt {n : Nat} {x : Int} (h : allowed n x = true) (hn : n ≤ 8192) : 0 ≤ x ∧ x < 65536 ∧ (0 < n → x < n) := by
  unfold allowed at h; split at h <;> simp at h <;> omega

/-- Bit x of the words f says whether x is in S. -/
def Bits (f : Nat → Nat) (S : List Int) : Prop := (∀ i, f i < 18446744073709551616) ∧ ∀ x : Nat, x < 65536 → ((f (x / 64)).testBit (x % 64) = true ↔ (x : Int) ∈ S)
theorem bits_zero : Bits (fun _ => 0) [] := ⟨fun _ => by simp, fun x _ => by simp⟩
theorem bits_set {f : Nat → Nat} {S : List Int} (h : Bits f S) (x : Nat) : Bits (fun i => if i = x / 64 then f i ||| 2 ^ (x % 64) else f i) (S ++ [(x : Int)]) := by
  refine ⟨fun i => ?_, fun y hy => ?_⟩
  · dsimp only
    split
    · have h1 : 2 ^ (x % 64) < 2 ^ 64 := Nat.pow_lt_pow_right (by omega) (Nat.mod_lt _ (by omega))
      have h2 := h.1 i
      exact Nat.or_lt_two_pow (n := 64) (by omega) h1
    · exact h.1 i
  · dsimp only
    have h1 := h.2 y hy
    by_cases e : y / 64 = x / 64
    · rw [if_pos e, Nat.testBit_or, Bool.or_eq_true, h1, Nat.testBit_two_pow, List.mem_append]
      simp only [decide_eq_true_eq, List.mem_singleton]
      constructor
      · rintro (h2 | h2)
        · exact .inl h2
        · exact .inr (by omega)
      · rintro (h2 | h2)
        · exact .inl h2
        · exact .inr (by omega)
    · rw [if_neg e, h1, List.mem_append]
      simp only [List.mem_singleton]
      constructor
      · exact fun h2 => .inl h2
      · rintro (h2 | h2)
        · exact h2
        · exact absurd (by omega : y / 64 = x / 64) e
end Go.Proofs.Ythliphpcfnbmnaa.Wl
