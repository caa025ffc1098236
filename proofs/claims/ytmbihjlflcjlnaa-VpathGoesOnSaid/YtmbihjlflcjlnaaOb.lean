/- The program's search for valid paths (a queue that grows while it is read) tells what the reference tells level by level. No program in sight. -/
import Derived.Test.YtmbihjlflcjlnaaYf
namespace Go.Df
open Go.RowKit
namespace Sp
/-- The queue behind its i-th element: that element's continuations are put behind it while there is room. -/
def bfsS (es : List Ed) (most count : Nat) (q : List It) (i : Nat) : List It :=
  match q[i]? with
  | none => q
  | some x => if x.pa.length = most then q else q ++ (sucI es x).take (count - q.length)
def bfsQ (es : List Ed) (most count : Nat) (a : Int) : Nat → List It
  | 0 => [⟨[], a, []⟩]
  | i + 1 => bfsS es most count (bfsQ es most count a i) i
/-- The paths told level by level, with where they end. -/
def toldI (es : List Ed) (count : Nat) (a : Int) : Nat → List It
  | 0 => []
  | n + 1 => toldI es count a n ++ (itI es count a n).2.take (count - (toldI es count a n).length)
section
variable {es : List Ed} {most count : Nat} {a : Int}
theorem toldI_pa : ∀ n, (toldI es count a n).map It.pa = (itI es count a n).1
  | 0 => rfl
  | n + 1 => by
    have ih := toldI_pa n
    have hl : (toldI es count a n).length = (itI es count a n).1.length := by rw [← ih, List.length_map]
    show (toldI es count a n ++ _).map It.pa = (rndI es count (itI es count a n)).1
    unfold rndI
    rw [List.map_append, ih, hl]
theorem toldI_len (n : Nat) : (toldI es count a n).length = (itI es count a n).1.length := by rw [← toldI_pa, List.length_map]
/-- The items of level n that are told. -/
def lvl (es : List Ed) (count : Nat) (a : Int) (n : Nat) : List It := (itI es count a n).2.take (count - (toldI es count a n).length)
theorem toldI_succ (n : Nat) : toldI es count a (n + 1) = toldI es count a n ++ lvl es count a n := rfl
theorem lvl_succ (n : Nat) : lvl es count a (n + 1) = ((lvl es count a n).flatMap (sucI es)).take (count - (toldI es count a (n + 1)).length) := by
  have e : (itI es count a (n + 1)).2 = ((lvl es count a n).flatMap (sucI es)).take count := by
    show (rndI es count (itI es count a n)).2 = _
    unfold rndI lvl
    rw [toldI_len]
  unfold lvl at e ⊢
  rw [e, List.take_take]
  congr 1
  omega
theorem lvl_path {n : Nat} {x : It} (h : x ∈ lvl es count a n) : x.pa.length = n := (itI_path n x (List.mem_of_mem_take h)).1
theorem toldI_le (n : Nat) : (toldI es count a n).length ≤ count := by rw [toldI_len]; exact itI_out_len n
/-- Within a level. -/
theorem bfs_level {n : Nat} (hn : n < most) (h0 : bfsQ es most count a (toldI es count a n).length = toldI es count a (n + 1)) : ∀ j, j ≤ (lvl es count a n).length →
    bfsQ es most count a ((toldI es count a n).length + j) = toldI es count a (n + 1) ++ (((lvl es count a n).take j).flatMap (sucI es)).take (count - (toldI es count a (n + 1)).length)
  | 0, _ => by simpa using h0
  | j + 1, hj => by
    have ih := bfs_level hn h0 j (by omega)
    obtain ⟨x, hx⟩ : ∃ x, (lvl es count a n)[j]? = some x := ⟨_, List.getElem?_eq_getElem (by omega)⟩
    show bfsS es most count (bfsQ es most count a ((toldI es count a n).length + j)) ((toldI es count a n).length + j) = _
    have hq : (bfsQ es most count a ((toldI es count a n).length + j))[(toldI es count a n).length + j]? = some x := by
      rw [ih, List.getElem?_append_left (by rw [toldI_succ, List.length_append]; omega), toldI_succ, List.getElem?_append_right (by omega), Nat.add_sub_cancel_left]
      exact hx
    have hlen : x.pa.length ≠ most := by rw [lvl_path (List.mem_of_getElem? hx)]; omega
    unfold bfsS
    rw [hq]
    dsimp only
    rw [if_neg hlen, ih]
    have ht : (lvl es count a n).take (j + 1) = (lvl es count a n).take j ++ [x] := by rw [List.take_add_one, hx]; rfl
    rw [ht, List.flatMap_append, List.append_assoc]
    congr 1
    rw [List.length_append, List.length_take]
    simp only [List.flatMap_cons, List.flatMap_nil, List.append_nil]
    rw [List.take_append]
    congr 2
    have hc := toldI_le (es := es) (count := count) (a := a) (n + 1)
    omega
theorem bfs_last (h0 : bfsQ es most count a (toldI es count a most).length = toldI es count a (most + 1)) : ∀ j, j ≤ (lvl es count a most).length →
    bfsQ es most count a ((toldI es count a most).length + j) = toldI es count a (most + 1)
  | 0, _ => h0
  | j + 1, hj => by
    have ih := bfs_last h0 j (by omega)
    obtain ⟨x, hx⟩ : ∃ x, (lvl es count a most)[j]? = some x := ⟨_, List.getElem?_eq_getElem (by omega)⟩
    show bfsS es most count (bfsQ es most count a ((toldI es count a most).length + j)) ((toldI es count a most).length + j) = _
    rw [ih]
    unfold bfsS
    have hq : (toldI es count a (most + 1))[(toldI es count a most).length + j]? = some x := by
      rw [toldI_succ, List.getElem?_append_right (by omega), Nat.add_sub_cancel_left]
      exact hx
    rw [hq]
    dsimp only
    rw [if_pos (lvl_path (List.mem_of_getElem? hx))]
/-- Where a level begins, the queue holds it whole (as much of it as there is room for). -/
theorem bfs_start (hc : 1 ≤ count) : ∀ n, n ≤ most → bfsQ es most count a (toldI es count a n).length = toldI es count a (n + 1)
  | 0, _ => by
    show [_] = [] ++ List.take (count - 0) [_]
    rw [Nat.sub_zero, List.nil_append, List.take_of_length_le (by simpa using hc)]
  | n + 1, hn => by
    have h0 := bfs_start hc n (by omega)
    have h1 := bfs_level (by omega) h0 (lvl es count a n).length (Nat.le_refl _)
    rw [List.take_of_length_le (Nat.le_refl _), ← lvl_succ, ← toldI_succ] at h1
    rw [← h1, toldI_succ, List.length_append]
/-- Every place lies in a level. -/
theorem level_of : ∀ n i, i < (toldI es count a n).length → ∃ m j, m < n ∧ j < (lvl es count a m).length ∧ i = (toldI es count a m).length + j
  | 0, i, h => by simp [toldI] at h
  | n + 1, i, h => by
    by_cases h1 : i < (toldI es count a n).length
    · obtain ⟨m, j, h2, h3, h4⟩ := level_of n i h1
      exact ⟨m, j, by omega, h3, h4⟩
    · rw [toldI_succ, List.length_append] at h
      exact ⟨n, i - (toldI es count a n).length, by omega, by omega, by omega⟩
theorem toldI_mono {m n : Nat} (h : m ≤ n) : (toldI es count a m).length ≤ (toldI es count a n).length := by
  rw [toldI_len, toldI_len]; exact itI_monoL h
/-- The queue is longer than the place that is read, as long as there is something to read; behind that it is what the reference tells. -/
theorem bfs_more (hc : 1 ≤ count) {i : Nat} (h : i < (toldI es count a (most + 1)).length) : i < (bfsQ es most count a i).length := by
  obtain ⟨m, j, h1, h2, rfl⟩ := level_of _ _ h
  by_cases hm : m = most
  · subst hm
    rw [bfs_last (bfs_start hc _ (Nat.le_refl _)) j (by omega)]
    exact h
  · rw [bfs_level (by omega) (bfs_start hc m (by omega)) j (by omega), List.length_append, toldI_succ, List.length_append]
    omega
theorem bfs_end (hc : 1 ≤ count) : bfsQ es most count a (toldI es count a (most + 1)).length = toldI es count a (most + 1) := by
  have h := bfs_last (bfs_start (es := es) (a := a) hc most (Nat.le_refl _)) (lvl es count a most).length (Nat.le_refl _)
  rw [← List.length_append, ← toldI_succ] at h
  exact h
/-- What is read is what the reference tells. -/
theorem bfs_read (hc : 1 ≤ count) {i : Nat} (h : i < (toldI es count a (most + 1)).length) : (bfsQ es most count a i)[i]? = (toldI es count a (most + 1))[i]? := by
  obtain ⟨m, j, h1, h2, rfl⟩ := level_of _ _ h
  by_cases hm : m = most
  · subst hm
    rw [bfs_last (bfs_start hc _ (Nat.le_refl _)) j (by omega)]
  · have hpre : ∀ n k, (∃ r, toldI es count a (n + k) = toldI es count a n ++ r) := fun n k => by
      induction k with
      | zero => exact ⟨[], by simp⟩
      | succ k ih =>
        obtain ⟨r, e⟩ := ih
        exact ⟨r ++ lvl es count a (n + k), by rw [← Nat.add_assoc, toldI_succ, e, List.append_assoc]⟩
    obtain ⟨r, e⟩ := hpre (m + 1) (most - m)
    rw [show m + 1 + (most - m) = most + 1 by omega] at e
    rw [bfs_level (by omega) (bfs_start hc m (by omega)) j (by omega), e]
    rw [List.getElem?_append_left (by rw [toldI_succ, List.length_append]; omega), List.getElem?_append_left (by rw [toldI_succ, List.length_append]; omega)]
end
end Sp
end Go.Df
