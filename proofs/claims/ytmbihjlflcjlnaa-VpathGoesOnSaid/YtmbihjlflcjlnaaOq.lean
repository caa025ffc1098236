/- What VpathGoesOn wants in plain words. No program in sight. -/
import Derived.Test.YtmbihjlflcjlnaaOi
namespace Go.Df
open Go.RowKit
namespace Sp
theorem flt_take (es : List Ed) (a : Int) (cs l : List Int) : ∀ j, j ≤ l.length → flt es a cs l j = (l.take j).filter fun k => (stepS es a cs k).1 == 0
  | 0, _ => rfl
  | j + 1, h => by
    rw [flt, flt_take es a cs l j (by omega), List.take_add_one, List.getElem?_eq_getElem (by omega), gi_lt (by omega), List.filter_append]
    simp only [Option.toList_some, List.filter_cons, List.filter_nil]
    by_cases h0 : (stepS es a cs l[j]).1 = 0
    · rw [if_pos h0, if_pos (by simpa using h0)]
    · rw [if_neg h0, if_neg (by simpa using h0), List.append_nil]
theorem outS_filter (es : List Ed) (x : Int) : ∀ j, outS es x j = ofNats ((List.range j).filter fun k => (ge es k).a == x)
  | 0 => rfl
  | j + 1 => by
    rw [outS, outS_filter es x j, filter_one]
    by_cases e : (ge es j).a = x
    · rw [if_pos e, if_pos (by simpa using e), ofNats_snoc]
    · rw [if_neg e, if_neg (by simpa using e)]
/-- The edges that may be taken, as numbers. -/
def okE (es : List Ed) (a : Int) (cs : List Int) (i : Nat) : Bool := (stepS es a cs i).1 == 0
def okL (es : List Ed) (a : Int) (cs : List Int) (n : Nat) : List Nat := (List.range n).filter (okE es a cs)
theorem nextS_ok (es : List Ed) (a : Int) (cs : List Int) : nextS es a cs = ofNats (okL es a cs es.length) := by
  unfold nextS
  rw [flt_take es a cs _ _ (Nat.le_refl _), List.take_of_length_le (Nat.le_refl _), outS_filter]
  unfold ofNats okL
  rw [List.filter_map, List.filter_filter]
  congr 1
  refine List.filter_congr fun k _ => ?_
  show (okE es a cs k && _) = okE es a cs k
  cases h : okE es a cs k with
  | false => rfl
  | true =>
    unfold okE at h
    obtain ⟨x, e, _, h2, _⟩ := step_ok2 (es := es) (a := a) (cs := cs) (k := k) (by simpa using h)
    obtain rfl : k = x := by omega
    simp [h2]
theorem okL_succ (es : List Ed) (a : Int) (cs : List Int) (i : Nat) : okL es a cs (i + 1) = if okE es a cs i = true then okL es a cs i ++ [i] else okL es a cs i := filter_one i
theorem okL_pre (es : List Ed) (a : Int) (cs : List Int) {i n : Nat} (h : i ≤ n) : ∃ r, okL es a cs n = okL es a cs i ++ r := by
  induction h with
  | refl => exact ⟨[], by simp⟩
  | @step n _ ih =>
    obtain ⟨r, e⟩ := ih
    rw [okL_succ]
    split
    · exact ⟨r ++ [n], by rw [e, List.append_assoc]⟩
    · exact ⟨r, e⟩
/-- The edge i is the next one of the list just if it may be taken. -/
theorem okL_at (es : List Ed) (a : Int) (cs : List Int) {i n : Nat} (h : i < n) : ((okL es a cs i).length < (okL es a cs n).length ∧ gi (ofNats (okL es a cs n)) (okL es a cs i).length = i) ↔ okE es a cs i = true := by
  constructor
  · rintro ⟨h1, h2⟩
    rw [gi_lt (by rw [ofNats_len]; exact h1)] at h2
    simp only [ofNats, List.getElem_map] at h2
    have h3 := List.getElem_mem h1
    have h4 : (okL es a cs n)[(okL es a cs i).length] = i := by omega
    rw [h4] at h3
    exact (List.mem_filter.1 h3).2
  · intro h0
    obtain ⟨r, e⟩ := okL_pre es a cs (show i + 1 ≤ n by omega)
    rw [okL_succ, if_pos h0] at e
    have hl : (okL es a cs i).length < (okL es a cs n).length := by rw [e]; simp
    refine ⟨hl, ?_⟩
    rw [gi_lt (by rw [ofNats_len]; exact hl)]
    simp only [ofNats, List.getElem_map, e]
    rw [List.getElem_append_left (by simp), List.getElem_append_right (by omega)]
    simp
theorem okL_len (es : List Ed) (a : Int) (cs : List Int) (n : Nat) : (okL es a cs n).length ≤ n := by
  have := List.length_filter_le (okE es a cs) (List.range n)
  rw [List.length_range] at this
  exact this
variable {ns : List Nd} {es : List Ed} {m fr : Int} {path : List Int} {a : Int} {cs : List Int}
theorem follow_ok (h : followS ns es m fr path = (0, a, cs)) : chkErr ns es m fr = 0 ∧ runS es fr [] path = (0, a, cs) := by
  unfold followS at h
  split at h
  · rename_i h0
    injection h with h1 _
    exact absurd h1 h0
  · rename_i h0
    split at h
    · cases h
    · exact ⟨Decidable.byContradiction h0, h⟩
theorem follow_snoc (h : followS ns es m fr path = (0, a, cs)) (hl : path.length < 4096) (i : Int) : (followS ns es m fr (path ++ [i])).1 = (stepS es a cs i).1 := by
  obtain ⟨h1, h2⟩ := follow_ok h
  unfold followS
  rw [if_neg (by simp [h1]), if_neg (by simp; omega), run_snoc2, h2, if_neg (by simp)]
/-- A valid path is told, unless enough others are. -/
theorem told_in {count : Nat} {p : List Int} (h : (itI es count a (p.length + 1)).1.length < count) (hp : (runS es a [] p).1 = 0) : p ∈ (itI es count a (p.length + 1)).1 := by
  have h2 := itI_full p.length h p (runS es a [] p).2.1 (runS es a [] p).2.2 rfl (by rw [← hp])
  have h3 := itI_whole h
  show p ∈ (rndI es count (itI es count a p.length)).1
  unfold rndI
  rw [h3.2]
  exact List.mem_append.2 (.inr (List.mem_map.2 ⟨_, h2, rfl⟩))
end Sp
end Go.Df
