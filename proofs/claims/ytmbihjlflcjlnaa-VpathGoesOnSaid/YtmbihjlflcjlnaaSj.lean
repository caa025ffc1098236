/- The program's way to check a supergraph, in plain words: counts of nodes, starts, entries. -/
import Derived.Test.YtmbihjlflcjlnaaSh
namespace Go.Df
/-- One change after the other. -/
theorem Kept.next {X Y : List Nat} {W w w' : World} (h : Kept X W w) (h' : Kept Y w w') (hx : ∀ y ∈ Y, y ∈ X ∨ W.heap.size ≤ y) : Kept X W w' :=
  ⟨h'.os.trans h.os, h'.tape.trans h.tape, h'.output.trans h.output, Nat.le_trans h.size h'.size, fun k hk hn => (h'.block k (Nat.lt_of_lt_of_le hk h.size) (fun hm => by rcases hx k hm with h1 | h1; exact hn h1; omega)).trans (h.block k hk hn)⟩
/-- A map from integers to integers, as a function on keys. -/
def mv (g : Int → Int) (v : Value) : Lit := match v with | .int .i64 a => .int .i64 (g a) | _ => .int .i64 0
theorem mv_put {g g' : Int → Int} {a : Int} (h : ∀ x, x ≠ a → g' x = g x) : ∀ v, v ≠ .int .i64 a → mv g' v = mv g v := by
  intro v hv
  unfold mv
  split
  · rename_i x
    rw [h x (fun hh => hv (by rw [hh]))]
  · rfl
/-- A map from pairs to truth, as a function on keys. -/
def mbl (g : Int → Int → Bool) : List Value → Lit
  | [.int .i64 a, .int .i64 b] => .bool (g a b)
  | _ => .bool false
def mb (g : Int → Int → Bool) (v : Value) : Lit := match v with | .agg xs => mbl g xs.toList | _ => .bool false
theorem mbl_put {g g' : Int → Int → Bool} {a b : Int} (h : ∀ x y, ¬ (x = a ∧ y = b) → g' x y = g x y) : ∀ l, l ≠ [.int .i64 a, .int .i64 b] → mbl g' l = mbl g l := by
  intro l hl
  unfold mbl
  split
  · rename_i x y
    exact congrArg _ (h x y (fun hh => hl (by rw [hh.1, hh.2])))
  · rfl
theorem mb_put {g g' : Int → Int → Bool} {a b : Int} (h : ∀ x y, ¬ (x = a ∧ y = b) → g' x y = g x y) : ∀ v, v ≠ .agg #[.int .i64 a, .int .i64 b] → mb g' v = mb g v := by
  intro v hv
  unfold mb
  split
  · rename_i xs
    exact mbl_put h _ (fun hh => hv (by rw [show xs = #[.int .i64 a, .int .i64 b] from Array.ext' hh]))
  · rfl
theorem mb_at (g : Int → Int → Bool) (a b : Int) : mb g (.agg #[.int .i64 a, .int .i64 b]) = .bool (g a b) := rfl
namespace Sp
/-- How many of the first j nodes are a start, an exit or a throw node of f. -/
def cnt (ns : List Nd) : Nat → Int → Int
  | 0, _ => 0
  | j + 1, f => if (gn ns j).f = f ∧ ((gn ns j).k = 1 ∨ (gn ns j).k = 3 ∨ (gn ns j).k = 4) then cnt ns j f + 1 else cnt ns j f
/-- The last start node of f among the first j, or 0. -/
def lst (ns : List Nd) : Nat → Int → Int
  | 0, _ => 0
  | j + 1, f => if (gn ns j).f = f ∧ (gn ns j).k = 1 then (j : Int) else lst ns j f
/-- Does one of the first j edges call from x to y? -/
def ent (es : List Ed) : Nat → Int → Int → Bool
  | 0, _, _ => false
  | j + 1, x, y => if (ge es j).k = 2 ∧ (ge es j).a = x ∧ (ge es j).b = y then true else ent es j x y
theorem cnt_le (ns : List Nd) (f : Int) : ∀ j : Nat, 0 ≤ cnt ns j f ∧ cnt ns j f ≤ j := by
  intro j
  induction j with
  | zero => simp [cnt]
  | succ j ih => unfold cnt; split <;> omega
theorem lst_le (ns : List Nd) (f : Int) : ∀ j : Nat, 0 ≤ lst ns j f ∧ lst ns j f ≤ j := by
  intro j
  induction j with
  | zero => simp [lst]
  | succ j ih => unfold lst; split <;> omega
theorem ent_iff (es : List Ed) (x y : Int) : ∀ n : Nat, ent es n x y = true ↔ ∃ j, j < n ∧ (ge es j).k = 2 ∧ (ge es j).a = x ∧ (ge es j).b = y := by
  intro n
  induction n with
  | zero => simp [ent]
  | succ n ih =>
    unfold ent
    split
    · rename_i h
      simp only [true_iff]
      exact ⟨n, by omega, h⟩
    · rename_i h
      rw [ih]
      constructor
      · rintro ⟨j, hj, h1⟩; exact ⟨j, by omega, h1⟩
      · rintro ⟨j, hj, h1⟩
        rcases Nat.lt_or_ge j n with h2 | h2
        · exact ⟨j, h2, h1⟩
        · obtain rfl : j = n := by omega
          exact absurd h1 h
/-- How many of the first j nodes are of kind k and of function f. -/
def ck (ns : List Nd) (k : Int) : Nat → Int → Int
  | 0, _ => 0
  | j + 1, f => if (gn ns j).f = f ∧ (gn ns j).k = k then ck ns k j f + 1 else ck ns k j f
theorem cnt_ck (ns : List Nd) (f : Int) : ∀ j, cnt ns j f = ck ns 1 j f + ck ns 3 j f + ck ns 4 j f := by
  intro j
  induction j with
  | zero => rfl
  | succ j ih =>
    unfold cnt ck
    by_cases hf : (gn ns j).f = f
    · by_cases h1 : (gn ns j).k = 1
      · simp [hf, h1, ih]; omega
      · by_cases h3 : (gn ns j).k = 3
        · simp [hf, h3, ih]; omega
        · by_cases h4 : (gn ns j).k = 4
          · simp [hf, h4, ih]; omega
          · simp [h1, h3, h4, ih]
    · simp [hf, ih]
theorem ck_zero {ns : List Nd} {k f : Int} : ∀ {n : Nat}, (∀ i, i < n → ¬ ((gn ns i).f = f ∧ (gn ns i).k = k)) → ck ns k n f = 0 := by
  intro n
  induction n with
  | zero => intro _; rfl
  | succ n ih => intro h; unfold ck; rw [if_neg (h n (by omega))]; exact ih (fun i hi => h i (by omega))
theorem ck_nn {ns : List Nd} {k f : Int} : ∀ n : Nat, 0 ≤ ck ns k n f := by
  intro n
  induction n with
  | zero => simp [ck]
  | succ n ih => unfold ck; split <;> omega
theorem ck_pos {ns : List Nd} {k f : Int} {i : Nat} : ∀ {n : Nat}, i < n → (gn ns i).f = f → (gn ns i).k = k → 1 ≤ ck ns k n f := by
  intro n
  induction n with
  | zero => intro h; omega
  | succ n ih =>
    intro h h1 h2
    unfold ck
    have := @ck_nn ns k f n
    split
    · omega
    · rename_i h3
      rcases Nat.lt_or_ge i n with h4 | h4
      · exact ih h4 h1 h2
      · obtain rfl : i = n := by omega
        exact absurd ⟨h1, h2⟩ h3
theorem ck_one {ns : List Nd} {k f : Int} : ∀ {n : Nat}, (∀ i j, i < j → j < n → (gn ns i).f = f → (gn ns i).k = k → (gn ns j).f = f → (gn ns j).k = k → False) → ck ns k n f ≤ 1 := by
  intro n
  induction n with
  | zero => intro _; simp [ck]
  | succ n ih =>
    intro h
    unfold ck
    split
    · rename_i h1
      rw [ck_zero (fun i hi hh => h i n hi (by omega) hh.1 hh.2 h1.1 h1.2)]
      omega
    · exact ih (fun i j hi hj => h i j hi (by omega))
theorem lessN_trans {a b c : Nd} (h1 : lessN a b = true) (h2 : lessN b c = true) : lessN a c = true := by
  unfold lessN at *
  grind
theorem node_less {ns : List Nd} {j : Nat} (h : nodeErr ns j = 0) (hj : 0 < j) : lessN (gn ns (j - 1)) (gn ns j) = true := by
  unfold nodeErr at h
  split at h
  · cases h
  · split at h
    · cases h
    · split at h
      · cases h
      · rename_i h3
        simp only [hj, true_and, Bool.not_eq_false] at h3
        exact h3
theorem node_asc {ns : List Nd} {n : Nat} (h : ∀ x, x < n → nodeErr ns x = 0) : ∀ j i, i < j → j < n → lessN (gn ns i) (gn ns j) = true := by
  intro j
  induction j with
  | zero => intro i hi; omega
  | succ j ih =>
    intro i hi hj
    have h1 := node_less (h (j + 1) hj) (by omega)
    rw [Nat.add_sub_cancel] at h1
    rcases Nat.lt_or_ge i j with h2 | h2
    · exact lessN_trans (ih i h2 (by omega)) h1
    · obtain rfl : i = j := by omega
      exact h1
theorem node_i {ns : List Nd} {j : Nat} (h : nodeErr ns j = 0) (hk : (gn ns j).k ≠ 2) : (gn ns j).i = -1 := by
  unfold nodeErr at h
  split at h
  · cases h
  · split at h
    · cases h
    · rename_i h3
      rcases Int.lt_or_le (gn ns j).f 0 with h4 | h4
      · exact absurd (Or.inl h4) h3
      · exact Classical.byContradiction (fun h5 => h3 (Or.inr (Or.inr ⟨hk, h5⟩)))
/-- At most one node of a function is of a kind other than that of instructions. -/
theorem node_once {ns : List Nd} {n : Nat} (h : ∀ x, x < n → nodeErr ns x = 0) {i j : Nat} (hij : i < j) (hj : j < n) {f k : Int} (hk : k ≠ 2) (h1 : (gn ns i).f = f) (h2 : (gn ns i).k = k) (h3 : (gn ns j).f = f) (h4 : (gn ns j).k = k) : False := by
  have h5 := node_asc h j i hij hj
  have h6 := node_i (h i (by omega)) (by rw [h2]; exact hk)
  have h7 := node_i (h j hj) (by rw [h4]; exact hk)
  unfold lessN at h5
  simp [h1, h2, h3, h4, h6, h7] at h5
theorem kind_neg {ns : List Nd} {f k : Int} : kindAt ns f k < 0 ↔ ∀ j, j < ns.length → ¬ ((gn ns j).f = f ∧ (gn ns j).k = k) := by
  constructor
  · intro h j hj hh
    unfold kindAt at h
    split at h
    · omega
    · rename_i h1
      rw [List.findIdx?_eq_none_iff] at h1
      have := h1 _ (List.getElem_mem hj)
      rw [← gn_lt hj] at this
      simp [hh.1, hh.2] at this
  · intro h
    rw [kind_miss (fun j hj => by have := h j hj; simp only [Bool.and_eq_false_iff, beq_eq_false_iff_ne]; exact Classical.or_iff_not_imp_left.mpr (fun h1 h2 => this ⟨Classical.not_not.mp h1, h2⟩))]
    omega
theorem ck_kind {ns : List Nd} (h : ∀ x, x < ns.length → nodeErr ns x = 0) {f k : Int} (hk : k ≠ 2) : ck ns k ns.length f = if kindAt ns f k < 0 then 0 else 1 := by
  have h1 : ck ns k ns.length f ≤ 1 := ck_one (fun i j hij hj a b c d => node_once h hij hj hk a b c d)
  split
  · rename_i h2
    exact ck_zero (kind_neg.mp h2)
  · rename_i h2
    rw [kind_neg] at h2
    obtain ⟨j, hj⟩ := Classical.not_forall.mp h2
    obtain ⟨hj1, hj2⟩ := Classical.not_imp.mp hj
    have h3 := Classical.not_not.mp hj2
    have := ck_pos hj1 h3.1 h3.2
    omega
theorem cnt_whole {ns : List Nd} (h : ∀ x, x < ns.length → nodeErr ns x = 0) (j : Nat) : wholeErr ns j = if cnt ns ns.length (gn ns j).f = 3 then 0 else 1 := by
  rw [cnt_ck, ck_kind h (by omega), ck_kind h (by omega), ck_kind h (by omega)]
  unfold wholeErr
  by_cases h1 : kindAt ns (gn ns j).f 1 < 0 <;> by_cases h3 : kindAt ns (gn ns j).f 3 < 0 <;> by_cases h4 : kindAt ns (gn ns j).f 4 < 0 <;> simp [h1, h3, h4]
/-- The start of a function that has one. -/
theorem lst_is {ns : List Nd} {f : Int} : ∀ {n : Nat}, n ≤ ns.length → (∃ i, i < n ∧ (gn ns i).f = f ∧ (gn ns i).k = 1) → ∃ s : Nat, lst ns n f = s ∧ s < n ∧ (gn ns s).f = f ∧ (gn ns s).k = 1 := by
  intro n
  induction n with
  | zero => rintro _ ⟨i, hi, -⟩; omega
  | succ n ih =>
    rintro hn ⟨i, hi, h1, h2⟩
    unfold lst
    split
    · rename_i h3
      exact ⟨n, rfl, by omega, h3.1, h3.2⟩
    · rename_i h3
      have : i < n := by
        rcases Nat.lt_or_ge i n with h4 | h4
        · exact h4
        · obtain rfl : i = n := by omega
          exact absurd ⟨h1, h2⟩ h3
      obtain ⟨s, a, b, c⟩ := ih (by omega) ⟨i, this, h1, h2⟩
      exact ⟨s, a, by omega, c⟩
theorem ent_calls {ns : List Nd} {es : List Ed} (h : ∀ x, x < ns.length → nodeErr ns x = 0) {f : Int} (hf : ∃ i, i < ns.length ∧ (gn ns i).f = f ∧ (gn ns i).k = 1) (c : Int) : ent es es.length c (lst ns ns.length f) = callsB ns es c f := by
  obtain ⟨s, hs, hlt, h1, h2⟩ := lst_is (Nat.le_refl _) hf
  rw [hs]
  have key : ∀ j, callB ns c f (ge es j) = true ↔ ((ge es j).k = 2 ∧ (ge es j).a = c ∧ (ge es j).b = (s : Int)) := by
    intro j
    unfold callB
    simp only [Bool.and_eq_true, decide_eq_true_eq]
    constructor
    · rintro ⟨⟨⟨⟨⟨a1, a2⟩, a3⟩, a4⟩, a5⟩, a6⟩
      refine ⟨a1, a2, ?_⟩
      have h7 : (ge es j).b.toNat < ns.length := by omega
      rcases Nat.lt_trichotomy (ge es j).b.toNat s with h8 | h8 | h8
      · exact absurd (node_once h h8 hlt (k := 1) (by omega) a5 a6 h1 h2) id
      · omega
      · exact absurd (node_once h h8 h7 (k := 1) (by omega) h1 h2 a5 a6) id
    · rintro ⟨a1, a2, a3⟩
      have : (ge es j).b.toNat = s := by omega
      rw [this]
      exact ⟨⟨⟨⟨⟨a1, a2⟩, by omega⟩, by omega⟩, h1⟩, h2⟩
  cases hb : callsB ns es c f with
  | false =>
    cases he : ent es es.length c s with
    | false => rfl
    | true =>
      obtain ⟨j, hj, hh⟩ := (ent_iff es c s es.length).mp he
      rw [calls_hit hj ((key j).mpr hh)] at hb
      cases hb
  | true =>
    unfold callsB at hb
    rw [List.any_eq_true] at hb
    obtain ⟨x, hx, hb⟩ := hb
    obtain ⟨j, hj, rfl⟩ := List.getElem_of_mem hx
    rw [← ge_lt hj] at hb
    exact (ent_iff es c s es.length).mpr ⟨j, hj, (key j).mp hb⟩
end Sp
end Go.Df
