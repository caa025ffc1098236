/- Slices of numbers that read as lists. No program in sight. -/
import Derived.Test.YthliphpcfnbmnaaLib
import Derived.BigQuiet
import Derived.Deep.QuietTactic
namespace Go.Df
open Go.RowKit

/-- The element of a list at an index; 0 beyond its end. (A name of its own, so that the walk's simp leaves it alone.) -/
def gi (xs : List Int) (i : Nat) : Int := xs.getD i 0
theorem gi_lt {xs : List Int} {i : Nat} (h : i < xs.length) : gi xs i = xs[i] := by simp [gi, h]
theorem gi_ge {xs : List Int} {i : Nat} (h : xs.length ≤ i) : gi xs i = 0 := by simp [gi, h]

/-- A slice value with address A and length n holds the numbers xs. -/
def Ints (w : World) (A : Option Addr) (n : Nat) (xs : List Int) : Prop :=
  xs.length = n ∧ (0 < n → ∃ b o, A = some ⟨b, o, none⟩ ∧ b < w.heap.size ∧ ∀ i, i < n → w.cell? ⟨b, o + i, none⟩ = some (.int .i64 (gi xs i)))

theorem Ints.len {w : World} {A : Option Addr} {n : Nat} {xs : List Int} (h : Ints w A n xs) : xs.length = n := h.1
theorem Ints.empty (w : World) (A : Option Addr) : Ints w A 0 [] := ⟨rfl, fun h => absurd h (by omega)⟩
theorem Ints.later {w w' : World} {A : Option Addr} {n : Nat} {xs : List Int} (h : Ints w A n xs) (hb : Below w.heap.size w w') : Ints w' A n xs :=
  ⟨h.1, fun hn => by
    obtain ⟨b, o, e, hl, hc⟩ := h.2 hn
    exact ⟨b, o, e, Nat.lt_of_lt_of_le hl hb.size, fun i hi => (hb.cell (p := ⟨b, o + i, none⟩) hl).trans (hc i hi)⟩⟩
theorem Ints.kept {w w' : World} {A : Option Addr} {n : Nat} {xs : List Int} (h : Ints w A n xs) (hk : Kept [] w w') : Ints w' A n xs :=
  ⟨h.1, fun hn => by
    obtain ⟨b, o, e, hl, hc⟩ := h.2 hn
    exact ⟨b, o, e, Nat.lt_of_lt_of_le hl hk.size, fun i hi => (hk.cell b (o + i) hl (by simp)).trans (hc i hi)⟩⟩
theorem Ints.at_ {w : World} {A : Option Addr} {n : Nat} {xs : List Int} (h : Ints w A n xs) (hn : 0 < n) :
    ∃ b o, A = some ⟨b, o, none⟩ ∧ b < w.heap.size ∧ ∀ i, i < n → w.cell? ⟨b, o + i, none⟩ = some (.int .i64 (gi xs i)) := h.2 hn
theorem drewN_below (B : Nat) (w : World) (n : Nat) : Below B w (w.drewN n) := ⟨rfl, rfl, rfl, Nat.le_refl _, fun _ _ => rfl⟩
theorem own_ge {w : World} {base : Nat} {e : TypeId} {size : Nat} {v : Value} {n : Nat} {xs : List Value} (h : w.ownsRow base e size v n xs) {g : Nat} (hg : v.ownBlock = some g) : base ≤ g := by
  rcases h.2 with ⟨rfl, _⟩ | ⟨g', cap, cur, rfl, hb, _⟩
  · simp [Value.ownBlock] at hg
  · simp [Value.ownBlock] at hg; omega
/-- What is owned reads as a list. -/
theorem Ints.of_own {w : World} {base : Nat} {e : TypeId} {v : Value} {n : Nat} {xs : List Int} (h : w.ownsRow base e 1 v n (xs.map (Value.int .i64))) : ∃ A c, v = .slice A n c ∧ Ints w A n xs ∧ (A = none → n = 0) := by
  have hl : xs.length = n := by simpa using h.1
  rcases h.2 with ⟨rfl, rfl⟩ | ⟨g, cap, cur, rfl, hb, hh, hnc, hcm, hcs, htk⟩
  · exact ⟨none, 0, rfl, ⟨hl, fun h => absurd h (by omega)⟩, fun _ => rfl⟩
  · refine ⟨_, cap, rfl, ⟨hl, fun hp => ⟨g, 0, rfl, ?_, fun i hi => ?_⟩⟩, fun h => by cases h⟩
    · rcases Nat.lt_or_ge g w.heap.size with h1 | h1
      · exact h1
      · rw [Array.getElem?_eq_none h1] at hh; cases hh
    · simp only [World.cell?, hh, Option.isSome_none, Bool.false_eq_true, if_false, Nat.zero_add]
      have h2 : (xs.map (Value.int .i64))[i]? = some (.int .i64 (gi xs i)) := by
        rw [List.getElem?_map, List.getElem?_eq_getElem (by omega), gi_lt (by omega)]; rfl
      rw [← htk, List.getElem?_take_of_lt (by omega)] at h2
      simpa using h2
theorem add_lit (b o j : Nat) : (⟨b, o, none⟩ : Addr).add j = ⟨b, o + j, none⟩ := by
  unfold Addr.add; split
  · subst_vars; rfl
  · rfl
/-- The cells of a slice as append's laws ask for them. -/
theorem Ints.news {w : World} {a : Addr} {n : Nat} {xs : List Int} (h : Ints w (some a) n xs) : ∀ j u, (xs.map (Value.int .i64))[j]? = some u → w.cell? (a.add j) = some u := by
  intro j u hu
  rw [List.getElem?_map] at hu
  rcases Nat.lt_or_ge j xs.length with hj | hj
  · have hl := h.1
    obtain ⟨b, o, e, _, hc⟩ := h.2 (by omega)
    injection e with e
    subst e
    rw [List.getElem?_eq_getElem hj] at hu
    simp at hu
    rw [add_lit, hc j (by omega), ← hu, gi_lt hj]
  · rw [List.getElem?_eq_none hj] at hu; simp at hu
theorem ints_one (xs : List Int) : ∀ u ∈ xs.map (Value.int .i64), u.oneCell' = true := by
  intro u hu; simp at hu; obtain ⟨x, _, rfl⟩ := hu; rfl
/-- The numbers of a slice are int64's. -/
def Fit (xs : List Int) : Prop := ∀ x ∈ xs, -9223372036854775808 ≤ x ∧ x ≤ 9223372036854775807
theorem Fit.gi {xs : List Int} (h : Fit xs) (i : Nat) : -9223372036854775808 ≤ gi xs i ∧ Df.gi xs i ≤ 9223372036854775807 := by
  by_cases hi : i < xs.length
  · rw [gi_lt hi]; exact h _ (List.getElem_mem hi)
  · rw [gi_ge (by omega)]; omega
end Go.Df
