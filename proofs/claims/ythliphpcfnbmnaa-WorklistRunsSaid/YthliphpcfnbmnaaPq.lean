/- Plain laws of worklists: what is valid, where an item is laid, which item is due. -/
import Derived.Test.YthliphpcfnbmnaaRu
namespace Go.Proofs.Ythliphpcfnbmnaa.Wl
open Go.Df
theorem before_irrefl (r : List Int) (x : Int) : before r x x = false := by simp [before]
theorem before_asymm {r : List Int} {x y : Int} (h : before r x y = true) : before r y x = false := by
  unfold before at *
  split at h <;> split <;> simp at * <;> omega
theorem before_total {r : List Int} {x y : Int} (h : before r x y = false) (hne : x ≠ y) : before r y x = true := by
  unfold before at *
  split at h <;> split <;> simp at * <;> omega
theorem before_trans {r : List Int} {x y z : Int} (h : before r x y = true) (h' : before r y z = true) : before r x z = true := by
  unfold before at *
  split at h <;> split at h' <;> split <;> simp at * <;> omega
/-- A valid worklist, in plain words. -/
structure Valid (r l : List Int) : Prop where
  rank : r.length ≤ 8192
  len : l.length ≤ 8192
  item : ∀ x ∈ l, allowed r.length x = true
  once : l.Nodup
  order : 0 < r.length → l.Pairwise (fun a b => before r a b = true)
theorem gi_mem {l : List Int} {j : Nat} (h : j < l.length) : gi l j ∈ l := by rw [gi_lt h]; exact List.getElem_mem h
theorem mem_gi {l : List Int} {x : Int} (h : x ∈ l) : ∃ j, j < l.length ∧ gi l j = x := by
  obtain ⟨j, hj, e⟩ := List.getElem_of_mem h
  exact ⟨j, hj, (gi_lt hj).trans e⟩
theorem pairwise_gi {R : Int → Int → Prop} {l : List Int} : l.Pairwise R ↔ ∀ i j, i < j → j < l.length → R (gi l i) (gi l j) := by
  rw [List.pairwise_iff_getElem]
  constructor
  · intro h i j hij hj; rw [gi_lt hj, gi_lt (by omega)]; exact h i j (by omega) hj hij
  · intro h i j hi hj hij; have := h i j hij hj; rwa [gi_lt hj, gi_lt hi] at this
theorem mem_take_gi {l : List Int} {k : Nat} {x : Int} (hk : k ≤ l.length) : x ∈ l.take k ↔ ∃ j, j < k ∧ gi l j = x := by
  constructor
  · intro h
    obtain ⟨j, hj, e⟩ := List.getElem_of_mem h
    rw [List.length_take] at hj
    rw [List.getElem_take] at e
    exact ⟨j, by omega, (gi_lt (by omega)).trans e⟩
  · rintro ⟨j, hj, e⟩
    rw [gi_lt (by omega)] at e
    have := List.getElem_mem (l := l.take k) (n := j) (by rw [List.length_take]; omega)
    rwa [List.getElem_take, e] at this
theorem valid_of_chk {r l : List Int} (h : chk r l = 0) : Valid r l := by
  have hsz : r.length ≤ 8192 ∧ l.length ≤ 8192 := by
    have h2 := h
    rw [chk] at h2
    split at h2
    · omega
    · omega
  have herr : ∀ j, j < l.length → err r l j = 0 := fun j hj => chk_err h hj
  have hal : ∀ j, j < l.length → allowed r.length (gi l j) = true := fun j hj => chk_allowed h hj
  have hnd : ∀ i j, i < j → j < l.length → gi l i ≠ gi l j := by
    intro i j hij hj e
    have h1 := herr j hj
    unfold err at h1
    rw [hal j hj, if_neg (by simp), if_pos ((mem_take_gi (by omega)).2 ⟨i, hij, e⟩)] at h1
    cases h1
  refine ⟨hsz.1, hsz.2, fun x hx => ?_, ?_, fun hr => ?_⟩
  · obtain ⟨j, hj, rfl⟩ := mem_gi hx; exact hal j hj
  · exact pairwise_gi.2 hnd
  · have step : ∀ j, j + 1 < l.length → before r (gi l j) (gi l (j + 1)) = true := by
      intro j hj
      have h1 := herr (j + 1) hj
      unfold err at h1
      rw [hal _ hj, if_neg (by simp), if_neg (fun hm => by obtain ⟨i, hi, e⟩ := (mem_take_gi (by omega)).1 hm; exact hnd i (j + 1) hi hj e)] at h1
      by_cases hb : before r (gi l (j + 1)) (gi l j) = true
      · rw [if_pos ⟨hr, by omega, by simpa using hb⟩] at h1; cases h1
      · exact before_total (by simpa using hb) (fun e => hnd j (j + 1) (by omega) hj e.symm)
    refine pairwise_gi.2 fun i j => ?_
    induction j with
    | zero => intro h; omega
    | succ j ih =>
      intro hij hj
      rcases Nat.lt_or_ge i j with h1 | h1
      · exact before_trans (ih h1 (by omega)) (step j hj)
      · obtain rfl : i = j := by omega
        exact step i hj
theorem chk_of_valid {r l : List Int} (h : Valid r l) : chk r l = 0 := by
  refine chk_ok h.rank h.len fun j hj => ?_
  have hnd := pairwise_gi.1 h.once
  unfold err
  rw [h.item _ (gi_mem hj), if_neg (by simp), if_neg (fun hm => by obtain ⟨i, hi, e⟩ := (mem_take_gi (by omega)).1 hm; exact hnd i j hi hj e)]
  rw [if_neg]
  rintro ⟨h1, h2, h3⟩
  have := before_asymm (pairwise_gi.1 (h.order h1) (j - 1) j (by omega) hj)
  rw [this] at h3; cases h3
theorem valid_iff {r l : List Int} : chk r l = 0 ↔ Valid r l := ⟨valid_of_chk, chk_of_valid⟩
/-- Where Push stops. -/
theorem placeD_spec (r l : List Int) (x : Int) (n : Nat) : (∀ j, placeD r l x n ≤ j → j < n → before r x (gi l j) = true) ∧ (placeD r l x n = 0 ∨ before r x (gi l (placeD r l x n - 1)) = false) := by
  induction n with
  | zero => exact ⟨fun j _ h => absurd h (by omega), .inl rfl⟩
  | succ n ih =>
    rw [placeD]
    split
    · rename_i hb
      refine ⟨fun j h1 h2 => ?_, ih.2⟩
      rcases Nat.lt_or_ge j n with h3 | h3
      · exact ih.1 j h1 h3
      · obtain rfl : j = n := by omega
        exact hb
    · rename_i hb
      exact ⟨fun j h1 h2 => absurd h2 (by omega), .inr (by simpa using hb)⟩
/-- The place, found from either end. -/
theorem place_unique {r l : List Int} {x : Int} {k : Nat} (hv : Valid r l) (hx : x ∉ l) (hk : k ≤ l.length) (h1 : ∀ j, j < k → r.length = 0 ∨ before r (gi l j) x = true) (h2 : k = l.length ∨ (0 < r.length ∧ before r (gi l k) x = false)) : k = place r l x := by
  unfold place
  split
  · rename_i hr
    obtain ⟨p1, p2⟩ := placeD_spec r l x l.length
    have ple := placeD_le r l x l.length
    generalize placeD r l x l.length = p at *
    rcases Nat.lt_trichotomy k p with h | h | h
    · exfalso
      rcases h2 with h2 | ⟨_, h2⟩
      · omega
      · have h3 : before r x (gi l k) = true := before_total h2 (fun e => hx (e ▸ gi_mem (by omega)))
        rcases p2 with p2 | p2
        · omega
        · have h4 : before r x (gi l (p - 1)) = true := by
            rcases Nat.lt_or_ge k (p - 1) with h5 | h5
            · exact before_trans h3 (pairwise_gi.1 (hv.order hr) k (p - 1) h5 (by omega))
            · obtain rfl : k = p - 1 := by omega
              exact h3
          rw [h4] at p2; cases p2
    · exact h
    · exfalso
      have h3 := (h1 p h).resolve_left (by omega)
      have h4 := before_asymm h3
      rw [p1 p (Nat.le_refl _) (by omega)] at h4; cases h4
  · rename_i hr
    rcases h2 with h2 | ⟨h2, _⟩
    · exact h2
    · exact absurd h2 hr
theorem ins_perm (l : List Int) (i : Nat) (x : Int) : (ins l i x).Perm (x :: l) := by
  unfold ins
  have h : l = l.take i ++ l.drop i := (List.take_append_drop i l).symm
  exact (List.perm_middle).trans (by rw [List.take_append_drop])
theorem mem_ins {l : List Int} {i : Nat} {x y : Int} : y ∈ ins l i x ↔ y = x ∨ y ∈ l := by
  rw [(ins_perm l i x).mem_iff, List.mem_cons]
/-- Push keeps a worklist valid. -/
theorem valid_ins {r l : List Int} {x : Int} (hv : Valid r l) (ha : allowed r.length x = true) (hx : x ∉ l) (hl : l.length < 8192) : Valid r (ins l (place r l x) x) := by
  have hp := ins_perm l (place r l x) x
  refine ⟨hv.rank, by rw [hp.length_eq]; simp; omega, fun y hy => ?_, ?_, fun hr => ?_⟩
  · rcases mem_ins.1 hy with rfl | hy
    · exact ha
    · exact hv.item y hy
  · exact (hp.nodup_iff).2 (List.nodup_cons.2 ⟨hx, hv.once⟩)
  · have hpl : place r l x = placeD r l x l.length := by unfold place; rw [if_pos hr]
    obtain ⟨p1, p2⟩ := placeD_spec r l x l.length
    have ple := placeD_le r l x l.length
    rw [hpl]
    generalize placeD r l x l.length = p at *
    have hs := pairwise_gi.1 (hv.order hr)
    have below : ∀ j, j < p → before r (gi l j) x = true := by
      intro j hj
      rcases p2 with p2 | p2
      · omega
      · have h4 := before_total p2 (fun e => hx (e ▸ gi_mem (by omega)))
        rcases Nat.lt_or_ge j (p - 1) with h5 | h5
        · exact before_trans (hs j (p - 1) h5 (by omega)) h4
        · obtain rfl : j = p - 1 := by omega
          exact h4
    refine pairwise_gi.2 fun i j hij hj => ?_
    rw [ins_len x ple] at hj
    rw [gi_ins x ple, gi_ins x ple]
    by_cases i1 : i < p
    · rw [if_pos i1]
      by_cases j1 : j < p
      · rw [if_pos j1]; exact hs i j hij (by omega)
      · rw [if_neg j1]
        by_cases j2 : j = p
        · rw [if_pos j2]; exact below i i1
        · rw [if_neg j2]; exact hs i (j - 1) (by omega) (by omega)
    · rw [if_neg i1, if_neg (show ¬ j < p by omega), if_neg (show ¬ j = p by omega)]
      by_cases i2 : i = p
      · rw [if_pos i2]; exact p1 (j - 1) (by omega) (by omega)
      · rw [if_neg i2]; exact hs (i - 1) (j - 1) (by omega) (by omega)
/-- Pop keeps a worklist valid. -/
theorem valid_drop {r l : List Int} (hv : Valid r l) : Valid r (l.drop 1) :=
  ⟨hv.rank, by have := hv.len; rw [List.length_drop]; omega, fun x hx => hv.item x (List.mem_of_mem_drop hx), hv.once.sublist (List.drop_sublist 1 l), fun hr => (hv.order hr).sublist (List.drop_sublist 1 l)⟩
theorem valid_nil {r : List Int} (h : r.length ≤ 8192) : Valid r [] := ⟨h, by simp, by simp, by simp, by simp⟩
theorem without_len {l : List Int} {x : Int} : (without l x).length < l.length ↔ x ∈ l := by
  unfold without
  constructor
  · intro h
    by_cases hx : x ∈ l
    · exact hx
    · rw [List.filter_eq_self.2 (fun a ha => by simp; rintro rfl; exact hx ha)] at h; omega
  · intro h
    rcases Nat.lt_or_ge (l.filter (fun y => y != x)).length l.length with h1 | h1
    · exact h1
    · have := List.length_filter_eq_length_iff.1 (Nat.le_antisymm (List.length_filter_le _ _) h1) x h
      simp at this
theorem without_eq_len {l : List Int} {x : Int} : (without l x).length = l.length ↔ x ∉ l := by
  rw [← without_len (l := l) (x := x)]
  have : (without l x).length ≤ l.length := List.length_filter_le _ _
  omega
/-- The item that is due. -/
theorem least_spec {r l : List Int} (hr : 0 < r.length) (k : Nat) (hk : k < l.length) : leastTo r l k ∈ l ∧ ∀ j, j ≤ k → before r (gi l j) (leastTo r l k) = false := by
  induction k with
  | zero =>
    refine ⟨gi_mem hk, fun j hj => ?_⟩
    obtain rfl : j = 0 := by omega
    exact before_irrefl _ _
  | succ k ih =>
    obtain ⟨h1, h2⟩ := ih (by omega)
    rw [leastTo]
    by_cases hb : before r (gi l (k + 1)) (leastTo r l k) = true
    · rw [if_pos ⟨hr, hb⟩]
      refine ⟨gi_mem hk, fun j hj => ?_⟩
      rcases Nat.lt_or_ge k j with h3 | h3
      · obtain rfl : j = k + 1 := by omega
        exact before_irrefl _ _
      · by_cases hc : before r (gi l j) (gi l (k + 1)) = true
        · have := h2 j h3
          rw [before_trans hc hb] at this; cases this
        · simpa using hc
    · rw [if_neg (fun h => hb h.2)]
      refine ⟨h1, fun j hj => ?_⟩
      rcases Nat.lt_or_ge k j with h3 | h3
      · obtain rfl : j = k + 1 := by omega
        simpa using hb
      · exact h2 j h3
theorem least_head {r l a : List Int} (hv : Valid r l) (hp : a.Perm l) (hr : 0 < r.length) (hl : 0 < l.length) : leastTo r a (a.length - 1) = gi l 0 := by
  have hal : a.length = l.length := hp.length_eq
  obtain ⟨h1, h2⟩ := least_spec (l := a) hr (a.length - 1) (by omega)
  by_cases e : leastTo r a (a.length - 1) = gi l 0
  · exact e
  · exfalso
    obtain ⟨j, hj, ej⟩ := mem_gi (hp.mem_iff.1 h1)
    have hj0 : 0 < j := by
      rcases Nat.eq_zero_or_pos j with rfl | h
      · exact absurd ej.symm e
      · exact h
    have hb := pairwise_gi.1 (hv.order hr) 0 j hj0 hj
    rw [ej] at hb
    obtain ⟨i, hi, ei⟩ := mem_gi (hp.mem_iff.2 (gi_mem (l := l) hl))
    have := h2 i (by omega)
    rw [ei, hb] at this; cases this
theorem least_first {r a : List Int} (hr : r.length = 0) (k : Nat) : leastTo r a k = gi a 0 := by
  induction k with
  | zero => rfl
  | succ k ih => rw [leastTo, if_neg (by omega), ih]
end Go.Proofs.Ythliphpcfnbmnaa.Wl
