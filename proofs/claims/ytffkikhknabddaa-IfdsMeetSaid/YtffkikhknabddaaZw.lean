/- A pack of texts: Ua Xa Xt Yb. -/
import Derived.Test.YtffkikhknabddaaZi
import Derived.Test.YtffkikhknabddaaZv
import Derived.Lib.SlicesCompact
/- Which nodes valid paths reach, in plain words: by frames, and node by node. No program in sight. -/
namespace Go.Df
open Go.RowKit
namespace Rc
open Sp If
section
variable (es : List Ed) (m : Int)
/-- Frames: node n is reached by a balanced path from s, which is Main or a start that a call reaches. -/
inductive FR : Nat → Nat → Prop
  | main : FR m.toNat m.toNat
  | flow {s k : Nat} : k < es.length → ((ge es k).k = 1 ∨ (ge es k).k = 5) → FR s (ge es k).a.toNat → FR s (ge es k).b.toNat
  | call {s k : Nat} : k < es.length → (ge es k).k = 2 → FR s (ge es k).a.toNat → FR (ge es k).b.toNat (ge es k).b.toNat
  | ret {s c r : Nat} : c < es.length → (ge es c).k = 2 → r < es.length → ((ge es r).k = 3 ∨ (ge es r).k = 4) → (ge es r).c = (ge es c).a → FR s (ge es c).a.toNat → FR (ge es c).b.toNat (ge es r).a.toNat → FR s (ge es r).b.toNat
/-- Node by node: a return goes on if its call is reached. -/
inductive RE : Nat → Prop
  | main : RE m.toNat
  | go {k : Nat} : k < es.length → ¬ ((ge es k).k = 3 ∨ (ge es k).k = 4) → RE (ge es k).a.toNat → RE (ge es k).b.toNat
  | ret {r : Nat} : r < es.length → ((ge es r).k = 3 ∨ (ge es r).k = 4) → RE (ge es r).a.toNat → RE (ge es r).c.toNat → RE (ge es r).b.toNat
end
theorem RE.of_frame {es : List Ed} {m : Int} {s n : Nat} (h : FR es m s n) : RE es m n := by
  induction h with
  | main => exact .main
  | flow hk h2 _ ih => exact .go hk (by omega) ih
  | call hk h2 _ ih => exact .go hk (by omega) ih
  | ret hc h2 hr h3 h4 _ _ ih1 ih2 => exact .ret hr h3 ih2 (by rw [h4]; exact ih1)
variable {ns : List Nd} {es : List Ed} {m : Int} (hs : superErr ns es m = 0)
include hs
theorem call_edge {k : Nat} (hk : k < es.length) (h2 : (ge es k).k = 2) : (gn ns (ge es k).b.toNat).k = 1 ∧ (ge es k).c = (ge es k).a := by
  have h1 := (sup_edge hs hk).2.2.2.2.2.2.2
  unfold fitsB fitsN at h1
  rw [if_neg (by omega), if_pos h2] at h1
  simp at h1
  exact ⟨h1.2, h1.1.2⟩
theorem flow_edge {k : Nat} (hk : k < es.length) (h2 : (ge es k).k = 1 ∨ (ge es k).k = 5) : (gn ns (ge es k).a.toNat).f = (gn ns (ge es k).b.toNat).f := by
  have h1 := (sup_edge hs hk).2.2.2.2.2.2.2
  unfold fitsB fitsN at h1
  rw [if_pos h2] at h1
  simp at h1
  exact h1.1.1.1.1
/-- A return edge: its call has a call edge to the function that it leaves. -/
theorem ret_edge {k : Nat} (hk : k < es.length) (h2 : (ge es k).k = 3 ∨ (ge es k).k = 4) :
    (gn ns (ge es k).b.toNat).f = (gn ns (ge es k).c.toNat).f ∧ ∃ c, c < es.length ∧ (ge es c).k = 2 ∧ (ge es c).a = (ge es k).c ∧ (gn ns (ge es c).b.toNat).f = (gn ns (ge es k).a.toNat).f := by
  have h1 := (sup_edge hs hk).2.2.2.2.2.2.2
  unfold fitsB fitsN at h1
  rw [if_neg (by omega), if_neg (by omega)] at h1
  split at h1
  · cases h1
  · simp at h1
    refine ⟨h1.1.2, ?_⟩
    have h3 := h1.1.1.2
    unfold callsB at h3
    rw [List.any_eq_true] at h3
    obtain ⟨e, he, h4⟩ := h3
    obtain ⟨c, hc, rfl⟩ := List.getElem_of_mem he
    unfold callB at h4
    simp at h4
    refine ⟨c, hc, ?_⟩
    rw [ge_lt hc]
    exact ⟨h4.1.1.1.1.1, h4.1.1.1.1.2, h4.1.2⟩
/-- A frame begins at the start of its function. -/
theorem FR.start {s n : Nat} (h : FR es m s n) : s < ns.length ∧ n < ns.length ∧ (gn ns s).k = 1 ∧ (gn ns s).f = (gn ns n).f := by
  have hm := main_in (sup_parts hs).2.2.1
  induction h with
  | main => exact ⟨by omega, by omega, hm.2.2, rfl⟩
  | flow hk h2 _ ih => have := sup_edge hs hk; exact ⟨ih.1, by omega, ih.2.2.1, ih.2.2.2.trans (flow_edge hs hk h2)⟩
  | call hk h2 _ ih => have := sup_edge hs hk; exact ⟨by omega, by omega, (call_edge hs hk h2).1, rfl⟩
  | ret hc h2 hr h3 h4 _ _ ih1 ih2 =>
    have := sup_edge hs hr
    refine ⟨ih1.1, by omega, ih1.2.2.1, ?_⟩
    rw [ih1.2.2.2, (ret_edge hs hr h3).1, h4]
theorem start_one {s t : Nat} (h1 : s < ns.length) (h2 : t < ns.length) (k1 : (gn ns s).k = 1) (k2 : (gn ns t).k = 1) (hf : (gn ns s).f = (gn ns t).f) : s = t := by
  have hn := ndOk_of (sup_parts hs).2.2.1
  have h3 := hn.ahead h1 h2 hf k1
  have h4 := hn.ahead h2 h1 hf.symm k2
  omega
theorem RE.frame {n : Nat} (h : RE es m n) : ∃ s, FR es m s n := by
  induction h with
  | main => exact ⟨_, .main⟩
  | @go k hk h2 _ ih =>
    obtain ⟨s, ih⟩ := ih
    have := sup_edge hs hk
    by_cases h3 : (ge es k).k = 2
    · exact ⟨_, .call hk h3 ih⟩
    · exact ⟨s, .flow hk (by omega) ih⟩
  | @ret r hr h3 _ _ ih1 ih2 =>
    obtain ⟨s, ih1⟩ := ih1
    obtain ⟨t, ih2⟩ := ih2
    obtain ⟨_, c, hc, k2, ha, hf⟩ := ret_edge hs hr h3
    have h5 := ih1.start hs
    have h6 := call_edge hs hc k2
    have h7 := sup_edge hs hc
    rw [← ha] at ih2
    have e : s = (ge es c).b.toNat := start_one hs h5.1 (by omega) h5.2.2.1 h6.1 (h5.2.2.2.trans hf.symm)
    subst e
    exact ⟨t, .ret hc k2 hr h3 ha.symm ih2 ih1⟩
/-- The end of a valid path is reached, and so are its pending calls. -/
theorem run_reached : ∀ (path : List Int) (a : Int) (cs : List Int), 0 ≤ a → RE es m a.toNat → (∀ c ∈ cs, RE es m c.toNat) → (runS es a cs path).1 = 0 → RE es m (runS es a cs path).2.1.toNat
  | [], a, cs, _, ha, _, _ => ha
  | k :: r, a, cs, h0, ha, hc, h => by
    unfold runS at h ⊢
    split at h
    · rename_i h1; exact absurd h h1
    · rename_i h1
      rw [if_neg h1]
      have h1 : (stepS es a cs k).1 = 0 := Decidable.byContradiction h1
      have : 0 ≤ (stepS es a cs k).2.1 ∧ RE es m (stepS es a cs k).2.1.toNat ∧ ∀ c ∈ (stepS es a cs k).2.2, RE es m c.toNat := by
        unfold stepS at h1 ⊢
        split at h1
        · cases h1
        · rename_i g1
          rw [if_neg g1]
          have hk : k.toNat < es.length := by omega
          have he := sup_edge hs hk
          split at h1
          · cases h1
          · rename_i g2
            rw [if_neg g2]
            have g2 : (ge es k.toNat).a = a := Decidable.byContradiction g2
            subst g2
            split at h1
            · rename_i g3
              rw [if_pos g3]
              split at h1
              · cases h1
              · rename_i g4
                rw [if_neg g4]
                refine ⟨he.2.2.1, .ret hk g3 ha ?_, fun c hc' => hc c (List.mem_of_mem_tail hc')⟩
                cases cs with
                | nil => exact absurd (.inl rfl) g4
                | cons c cs =>
                  have : gi (c :: cs) 0 = (ge es k.toNat).c := Decidable.byContradiction fun h9 => g4 (.inr h9)
                  rw [← this]
                  exact hc _ (by simp [gi])
            · rename_i g3
              rw [if_neg g3]
              split
              · exact ⟨he.2.2.1, .go hk g3 ha, fun c hc' => by
                  rcases List.mem_cons.1 hc' with rfl | h9
                  · exact ha
                  · exact hc c h9⟩
              · exact ⟨he.2.2.1, .go hk g3 ha, hc⟩
      exact run_reached r _ _ this.1 this.2.1 this.2.2 h
end Rc
end Go.Df
/- Lists of facts in plain words: one more fact, the union, a flow function applied, the facts along a path. -/
namespace Go.Df
open Go.RowKit
namespace If
def wfs (x : Int) (s : List Int × Bool) (y : Int) : List Int × Bool := if s.2 = false ∧ x < y then (s.1 ++ [x] ++ [y], true) else (s.1 ++ [y], s.2)
def wfl (x : Int) (l : List Int) : List Int × Bool := l.foldl (wfs x) ([], false)
/-- An ascending list with one more fact. -/
def withF (l : List Int) (x : Int) : List Int := if x ∈ l then l else if (wfl x l).2 = true then (wfl x l).1 else (wfl x l).1 ++ [x]
/-- The different numbers of a list, ascending. -/
def ascF (l : List Int) : List Int := l.foldl withF []
def joinF (a b : List Int) : List Int := ascF (a ++ b)
/-- The seeds at a node. -/
def seedF (sd : List Sd) (nd : Int) : List Int := (sd.filter fun s => decide (s.n = nd)).map (·.f)
/-- What a flow function yields, with repetitions. -/
def apO (f : List Pr) (l : List Int) : List Int := (f.filter fun q => decide (q.o ≠ 0) && (decide (q.i = 0) || decide (q.i ∈ l))).map (·.o)
def applyF (f : List Pr) (l : List Int) : List Int := ascF (apO f l)
def stepF (p : Pb) (l : List Int) (k : Int) : List Int := joinF (applyF (gf p.fl k.toNat) l) (seedF p.sd (ge p.es k.toNat).b)
def alongF (p : Pb) (path : List Int) : List Int := path.foldl (stepF p) (joinF (seedF p.sd p.mn) [])

theorem wfl_gen (x : Int) : ∀ (l : List Int) (s : List Int × Bool), (l.Pairwise (· < ·)) → (∀ a ∈ s.1, ∀ b ∈ l, a < b) → s.1.Pairwise (· < ·) → x ∉ l → (s.2 = false → ∀ a ∈ s.1, a < x) → (s.2 = true → ∀ b ∈ l, x < b) →
    (l.foldl (wfs x) s).1.Pairwise (· < ·) ∧ ((l.foldl (wfs x) s).2 = false → ∀ a ∈ (l.foldl (wfs x) s).1, a < x) ∧ (∀ y, y ∈ (l.foldl (wfs x) s).1 ↔ y ∈ s.1 ∨ y ∈ l ∨ (s.2 = false ∧ (l.foldl (wfs x) s).2 = true ∧ y = x)) ∧ (s.2 = true → (l.foldl (wfs x) s).2 = true)
  | [], s, _, _, h2, _, h3, _ => by
    refine ⟨h2, h3, fun y => ?_, fun h => h⟩
    simp only [List.foldl_nil, List.not_mem_nil, false_or]
    constructor
    · exact fun h => Or.inl h
    · rintro (h | ⟨h, h', -⟩)
      · exact h
      · rw [h] at h'; cases h'
  | y :: l, s, h0, h1, h2, hx, h3, h4 => by
    rw [List.pairwise_cons] at h0
    rw [List.foldl_cons]
    have hxy : x ≠ y := fun h => hx (by rw [h]; simp)
    have hxl : x ∉ l := fun h => hx (List.mem_cons_of_mem _ h)
    by_cases hc : s.2 = false ∧ x < y
    · have e : wfs x s y = (s.1 ++ [x] ++ [y], true) := by unfold wfs; rw [if_pos hc]
      rw [e]
      have h5 := h3 hc.1
      have h6 : ∀ a ∈ s.1, a < y := fun a ha => h1 a ha y (by simp)
      obtain ⟨g1, g2, g3, g4⟩ := wfl_gen x l (s.1 ++ [x] ++ [y], true) h0.2 (fun a ha b hb => by
        simp only [List.mem_append, List.mem_singleton] at ha
        have := h0.1 b hb
        rcases ha with (ha | rfl) | rfl
        · exact h1 a ha b (List.mem_cons_of_mem _ hb)
        · omega
        · exact this) (by
        rw [List.pairwise_append, List.pairwise_append]
        refine ⟨⟨h2, by simp, fun a ha b hb => ?_⟩, by simp, fun a ha b hb => ?_⟩
        · simp only [List.mem_singleton] at hb; subst hb; exact h5 a ha
        · simp only [List.mem_singleton, List.mem_append] at hb ha; subst hb
          rcases ha with ha | rfl
          · exact h6 a ha
          · exact hc.2) hxl (fun h => by cases h) (fun _ b hb => by have := h0.1 b hb; omega)
      refine ⟨g1, g2, fun z => ?_, fun _ => g4 rfl⟩
      rw [g3]
      have := g4 rfl
      rw [hc.1, this]
      simp only [List.mem_append, List.mem_cons, List.not_mem_nil, or_false]
      grind
    · have e : wfs x s y = (s.1 ++ [y], s.2) := by unfold wfs; rw [if_neg hc]
      rw [e]
      have hyx : s.2 = false → y < x := fun h => by
        rcases Int.lt_or_le x y with h9 | h9
        · exact absurd ⟨h, h9⟩ hc
        · omega
      have h6 : ∀ a ∈ s.1, a < y := fun a ha => h1 a ha y (by simp)
      obtain ⟨g1, g2, g3, g4⟩ := wfl_gen x l (s.1 ++ [y], s.2) h0.2 (fun a ha b hb => by
        simp only [List.mem_append, List.mem_singleton] at ha
        have := h0.1 b hb
        rcases ha with ha | rfl
        · exact h1 a ha b (List.mem_cons_of_mem _ hb)
        · exact this) (by
        rw [List.pairwise_append]
        refine ⟨h2, by simp, fun a ha b hb => ?_⟩
        simp only [List.mem_singleton] at hb; subst hb; exact h6 a ha) hxl (fun h a ha => by
        simp only [List.mem_append, List.mem_singleton] at ha
        rcases ha with ha | rfl
        · exact h3 h a ha
        · exact hyx h) (fun h b hb => h4 h b (List.mem_cons_of_mem _ hb))
      refine ⟨g1, g2, fun z => ?_, g4⟩
      rw [g3]
      simp only [List.mem_append, List.mem_cons, List.not_mem_nil, or_false]
      grind

theorem withF_asc {l : List Int} (h : l.Pairwise (· < ·)) (x : Int) : (withF l x).Pairwise (· < ·) ∧ ∀ y, y ∈ withF l x ↔ y ∈ l ∨ y = x := by
  unfold withF
  by_cases hx : x ∈ l
  · rw [if_pos hx]
    exact ⟨h, fun y => ⟨fun h => Or.inl h, fun h => by rcases h with h | rfl; exact h; exact hx⟩⟩
  rw [if_neg hx]
  obtain ⟨g1, g2, g3, g4⟩ := wfl_gen x l ([], false) h (fun a ha => by simp at ha) List.Pairwise.nil hx (fun _ a ha => by simp at ha) (fun h => by cases h)
  change (wfl x l).1.Pairwise (· < ·) at g1
  change (wfl x l).2 = false → ∀ a ∈ (wfl x l).1, a < x at g2
  change ∀ y, y ∈ (wfl x l).1 ↔ y ∈ [] ∨ y ∈ l ∨ (false = false ∧ (wfl x l).2 = true ∧ y = x) at g3
  by_cases h2 : (wfl x l).2 = true
  · rw [if_pos h2]
    refine ⟨g1, fun y => ?_⟩
    rw [g3, h2]
    simp
  · rw [if_neg h2]
    have h3 : (wfl x l).2 = false := by simpa using h2
    refine ⟨?_, fun y => ?_⟩
    · rw [List.pairwise_append]
      refine ⟨g1, by simp, fun a ha b hb => ?_⟩
      simp only [List.mem_singleton] at hb; subst hb; exact g2 h3 a ha
    · rw [List.mem_append, g3, h3]
      simp
theorem foldF_asc : ∀ (l s : List Int), s.Pairwise (· < ·) → (l.foldl withF s).Pairwise (· < ·) ∧ ∀ y, y ∈ l.foldl withF s ↔ y ∈ s ∨ y ∈ l
  | [], s, h => ⟨h, fun y => by simp⟩
  | x :: l, s, h => by
    obtain ⟨h1, h2⟩ := withF_asc h x
    obtain ⟨h3, h4⟩ := foldF_asc l (withF s x) h1
    refine ⟨h3, fun y => ?_⟩
    rw [List.foldl_cons, h4, h2]
    simp only [List.mem_cons]
    grind
theorem ascF_asc (l : List Int) : (ascF l).Pairwise (· < ·) := (foldF_asc l [] List.Pairwise.nil).1
theorem ascF_mem (l : List Int) (y : Int) : y ∈ ascF l ↔ y ∈ l := by
  have := (foldF_asc l [] List.Pairwise.nil).2 y
  unfold ascF
  rw [this]; simp
/-- Two ascending lists of the same numbers are equal. -/
theorem asc_eq : ∀ {a b : List Int}, a.Pairwise (· < ·) → b.Pairwise (· < ·) → (∀ y, y ∈ a ↔ y ∈ b) → a = b
  | [], [], _, _, _ => rfl
  | [], y :: b, _, _, h => by have := (h y).2 (by simp); simp at this
  | x :: a, [], _, _, h => by have := (h x).1 (by simp); simp at this
  | x :: a, y :: b, ha, hb, h => by
    rw [List.pairwise_cons] at ha hb
    have e : x = y := by
      have h1 := (h x).1 (by simp)
      have h2 := (h y).2 (by simp)
      rw [List.mem_cons] at h1 h2
      rcases h1 with h1 | h1
      · exact h1
      · rcases h2 with h2 | h2
        · exact h2.symm
        · have := ha.1 y h2
          have := hb.1 x h1
          omega
    subst e
    congr 1
    refine asc_eq ha.2 hb.2 fun z => ?_
    have h1 := h z
    rw [List.mem_cons, List.mem_cons] at h1
    constructor
    · intro hz
      have := ha.1 z hz
      rcases h1.1 (Or.inr hz) with rfl | h3
      · omega
      · exact h3
    · intro hz
      have := hb.1 z hz
      rcases h1.2 (Or.inr hz) with rfl | h3
      · omega
      · exact h3
theorem asc_ascF {a : List Int} (l : List Int) (ha : a.Pairwise (· < ·)) (h : ∀ y, y ∈ a ↔ y ∈ l) : a = ascF l := asc_eq ha (ascF_asc l) fun y => (h y).trans (ascF_mem l y).symm
theorem ascF_self {a : List Int} (ha : a.Pairwise (· < ·)) : ascF a = a := (asc_ascF a ha fun _ => Iff.rfl).symm

/-- What Sort and Compact leave of a list. -/
theorem compact_sorted (l : List Int) (hs : l.Pairwise (· ≤ ·)) : (Lib.compact l).Pairwise (· < ·) ∧ ∀ y, y ∈ Lib.compact l ↔ y ∈ l := by
  have hget : ∀ j, l.toArray[j]! = l.getD j 0 := fun j => by simp [List.getD, getElem!_def]; cases l[j]? <;> rfl
  have hk : ∀ j, j < l.length → (Lib.keeps l.toArray j = true ↔ (j = 0 ∨ l.getD j 0 ≠ l.getD (j - 1) 0)) := fun j _ => by unfold Lib.keeps; rw [hget, hget]; simp
  have hle : ∀ i j, i ≤ j → j < l.length → l.getD i 0 ≤ l.getD j 0 := fun i j hij hj => by
    rw [List.getD_eq_getElem?_getD, List.getD_eq_getElem?_getD, List.getElem?_eq_getElem (by omega), List.getElem?_eq_getElem hj]
    rcases Nat.lt_or_eq_of_le hij with h | rfl
    · exact List.pairwise_iff_getElem.1 hs i j (by omega) hj h
    · exact Int.le_refl _
  constructor
  · unfold Lib.compact Lib.compactUpTo
    rw [List.pairwise_map]
    have h1 : (List.range l.length).Pairwise (· < ·) := List.pairwise_lt_range
    have h2 := h1.filter (p := Lib.keeps l.toArray)
    refine List.Pairwise.imp_of_mem ?_ h2
    intro i j _ hj hij
    rw [List.mem_filter, List.mem_range] at hj
    have hj2 := (hk j hj.1).1 hj.2
    rw [hget, hget]
    have := hle i (j - 1) (by omega) (by omega)
    have := hle (j - 1) j (by omega) hj.1
    rcases hj2 with h | h
    · omega
    · omega
  · intro y
    unfold Lib.compact Lib.compactUpTo
    rw [List.mem_map]
    constructor
    · rintro ⟨j, hj, rfl⟩
      rw [List.mem_filter, List.mem_range] at hj
      rw [hget, List.getD_eq_getElem?_getD, List.getElem?_eq_getElem hj.1]
      exact List.getElem_mem hj.1
    · intro hy
      obtain ⟨j, hj, rfl⟩ := List.getElem_of_mem hy
      have : ∀ j, (hj : j < l.length) → ∃ a, a ∈ List.filter (Lib.keeps l.toArray) (List.range l.length) ∧ l.toArray[a]! = l.getD j 0 := by
        intro j
        induction j with
        | zero => exact fun hj => ⟨0, by rw [List.mem_filter, List.mem_range]; exact ⟨hj, (hk 0 hj).2 (Or.inl rfl)⟩, hget 0⟩
        | succ j ih =>
          intro hj
          by_cases he : l.getD (j + 1) 0 = l.getD j 0
          · rw [he]; exact ih (by omega)
          · exact ⟨j + 1, by rw [List.mem_filter, List.mem_range]; exact ⟨hj, (hk (j + 1) hj).2 (Or.inr (by simpa using he))⟩, hget _⟩
      obtain ⟨a, h1, h2⟩ := this j hj
      refine ⟨a, h1, ?_⟩
      rw [h2, List.getD_eq_getElem?_getD, List.getElem?_eq_getElem hj]
      rfl
theorem sorted_compact (l : List Int) : Lib.compact (l.mergeSort fun x y => decide (x ≤ y)) = ascF l := by
  have hs : (l.mergeSort fun x y => decide (x ≤ y)).Pairwise (· ≤ ·) := by
    have h := List.pairwise_mergeSort (le := fun x y : Int => decide (x ≤ y)) (fun a b c h1 h2 => by simp at *; omega) (fun a b => by simp; omega) l
    exact h.imp (fun h => by simpa using h)
  obtain ⟨h1, h2⟩ := compact_sorted _ hs
  exact asc_ascF l h1 fun y => (h2 y).trans ((List.mergeSort_perm l _).mem_iff)

theorem wfs_len (x : Int) (s : List Int × Bool) (y : Int) : (wfs x s y).1.length = s.1.length + (if s.2 = false ∧ x < y then 2 else 1) := by
  unfold wfs
  split <;> simp
/-- The state of WithFact behind i elements. -/
def wfi (x : Int) (l : List Int) (i : Nat) : List Int × Bool := (l.take i).foldl (wfs x) ([], false)
theorem wfi_succ {x : Int} {l : List Int} {i : Nat} (hi : i < l.length) : wfi x l (i + 1) = wfs x (wfi x l i) (gi l i) := by
  unfold wfi
  rw [List.take_add_one, List.foldl_append, gi_lt hi]
  simp [hi]
theorem wfi_all {x : Int} {l : List Int} {n : Nat} (h : l.length ≤ n) : wfi x l n = wfl x l := by
  unfold wfi wfl
  rw [List.take_of_length_le h]
theorem wfl_len (x : Int) : ∀ (l : List Int) (s : List Int × Bool), (l.foldl (wfs x) s).1.length + (if (l.foldl (wfs x) s).2 = true then 0 else 1) = s.1.length + l.length + (if s.2 = true then 0 else 1)
  | [], s => by simp only [List.foldl_nil, List.length_nil, Nat.add_zero]; rfl
  | y :: l, s => by
    rw [List.foldl_cons, wfl_len x l (wfs x s y)]
    unfold wfs
    split
    · rename_i h; simp [h.1]; omega
    · simp; omega
theorem withF_len (l : List Int) (x : Int) : (withF l x).length ≤ l.length + 1 := by
  have h := wfl_len x l ([], false)
  unfold withF wfl
  split
  · omega
  · split
    · rename_i h2; rw [h2] at h; simp at h; omega
    · rename_i h2
      rw [List.length_append]
      simp at h2 h
      rw [h2] at h
      simp at h
      simp
      omega
def foF (f s : List Int) (i : Nat) : List Int := (f.take i).foldl withF s
theorem foF_succ {f s : List Int} {i : Nat} (hi : i < f.length) : foF f s (i + 1) = withF (foF f s i) (gi f i) := by
  unfold foF
  rw [List.take_add_one, List.foldl_append, gi_lt hi]
  simp [hi]
theorem foF_all {f s : List Int} {n : Nat} (h : f.length ≤ n) : foF f s n = f.foldl withF s := by
  unfold foF
  rw [List.take_of_length_le h]
theorem foF_len (f s : List Int) : ∀ i, (foF f s i).length ≤ s.length + i
  | 0 => by simp [foF]
  | i + 1 => by
    by_cases h : i < f.length
    · rw [foF_succ h]
      have := withF_len (foF f s i) (gi f i)
      have := foF_len f s i
      omega
    · have e : foF f s (i + 1) = foF f s i := by unfold foF; rw [List.take_of_length_le (by omega), List.take_of_length_le (by omega)]
      rw [e]
      have := foF_len f s i
      omega
theorem ascF_len (l : List Int) : (ascF l).length ≤ l.length := by
  have h := foF_len l [] l.length
  rw [foF_all (Nat.le_refl _)] at h
  simpa [ascF] using h
theorem joinF_len (a b : List Int) : (joinF a b).length ≤ a.length + b.length := by
  have h := ascF_len (a ++ b)
  rw [List.length_append] at h
  exact h
theorem seedF_len (sd : List Sd) (nd : Int) : (seedF sd nd).length ≤ sd.length := by
  unfold seedF
  rw [List.length_map]
  exact List.length_filter_le _ _
theorem applyF_len (f : List Pr) (l : List Int) : (applyF f l).length ≤ f.length := by
  have h := ascF_len (apO f l)
  have h2 : (apO f l).length ≤ f.length := by unfold apO; rw [List.length_map]; exact List.length_filter_le _ _
  exact Nat.le_trans h h2
theorem alongF_len (p : Pb) (m s : Nat) (hm : ∀ i, (gf p.fl i).length ≤ m) (hs : p.sd.length ≤ s) : ∀ (path : List Int) (l : List Int), l.length ≤ m + s → (path.foldl (stepF p) l).length ≤ m + s
  | [], l, h => h
  | k :: path, l, h => by
    rw [List.foldl_cons]
    refine alongF_len p m s hm hs path _ ?_
    have h1 := joinF_len (applyF (gf p.fl k.toNat) l) (seedF p.sd (ge p.es k.toNat).b)
    have h2 := applyF_len (gf p.fl k.toNat) l
    have h3 := hm k.toNat
    have h4 := seedF_len p.sd (ge p.es k.toNat).b
    unfold stepF
    omega
theorem lessD_trans {a b c : Sd} (h1 : lessD a b = true) (h2 : lessD b c = true) : lessD a c = true := by
  unfold lessD at *
  grind
/-- Seeds without an error ascend. -/
theorem sd_asc {N : Nat} {F : Int} {l : List Sd} (h : ∀ x, x < l.length → sdErr N F l x = 0) {i : Nat} : ∀ (d : Nat), i + d + 1 < l.length → lessD (gd l i) (gd l (i + d + 1)) = true := by
  have adj : ∀ j, j + 1 < l.length → lessD (gd l j) (gd l (j + 1)) = true := fun j hj => by
    have := h (j + 1) hj
    unfold sdErr at this
    split at this
    · cases this
    · split at this
      · cases this
      · rename_i hv
        cases hh : lessD (gd l j) (gd l (j + 1)) with
        | true => rfl
        | false => exact absurd ⟨Nat.succ_pos _, hh⟩ hv
  intro d
  induction d with
  | zero => intro hi; exact adj i hi
  | succ d ih => intro hi; exact lessD_trans (ih (by omega)) (adj (i + d + 1) (by omega))
theorem sd_mono {N : Nat} {F : Int} {l : List Sd} (h : ∀ x, x < l.length → sdErr N F l x = 0) {i j : Nat} (hij : i ≤ j) (hj : j < l.length) : (gd l i).n ≤ (gd l j).n := by
  by_cases e : i = j
  · rw [e]; exact Int.le_refl _
  · have h1 := sd_asc h (i := i) (j - i - 1) (by omega)
    rw [show i + (j - i - 1) + 1 = j by omega] at h1
    unfold lessD at h1
    split at h1
    · have := of_decide_eq_true h1; omega
    · omega
theorem seedF_asc {N : Nat} {F : Int} {l : List Sd} (h : ∀ x, x < l.length → sdErr N F l x = 0) (nd : Int) : (seedF l nd).Pairwise (· < ·) := by
  have h1 : l.Pairwise (fun a b => lessD a b = true) := List.pairwise_iff_getElem.2 fun i j hi hj hij => by
    have h2 := sd_asc h (i := i) (j - i - 1) (by omega)
    rw [show i + (j - i - 1) + 1 = j by omega, gd_lt hi, gd_lt hj] at h2
    exact h2
  unfold seedF
  rw [List.pairwise_map]
  refine List.Pairwise.imp_of_mem ?_ (h1.filter _)
  intro a b ha hb hab
  rw [List.mem_filter] at ha hb
  have e1 := of_decide_eq_true ha.2
  have e2 := of_decide_eq_true hb.2
  unfold lessD at hab
  rw [if_neg (by rw [e1, e2]; simp)] at hab
  exact of_decide_eq_true hab
/-- The seeds of a node lie together. -/
theorem seedF_mid {l : List Sd} {nd : Int} {a m : Nat} (h0 : a + m ≤ l.length) (h1 : ∀ j, j < a → (gd l j).n ≠ nd) (h2 : ∀ j, a ≤ j → j < a + m → (gd l j).n = nd) (h3 : ∀ j, a + m ≤ j → j < l.length → (gd l j).n ≠ nd) : seedF l nd = ((l.drop a).take m).map (·.f) := by
  have e : l = l.take a ++ ((l.drop a).take m ++ (l.drop a).drop m) := by rw [List.take_append_drop, List.take_append_drop]
  unfold seedF
  congr 1
  conv => lhs; rw [e]
  rw [List.filter_append, List.filter_append]
  have f1 : (l.take a).filter (fun s => decide (s.n = nd)) = [] := by
    refine List.filter_eq_nil_iff.2 ?_
    intro q hq
    obtain ⟨j, hj, rfl⟩ := List.getElem_of_mem hq
    rw [List.length_take] at hj
    rw [List.getElem_take, ← gd_lt (by omega)]
    simpa using h1 _ (by omega)
  have f2 : ((l.drop a).take m).filter (fun s => decide (s.n = nd)) = (l.drop a).take m := by
    refine List.filter_eq_self.2 ?_
    intro q hq
    obtain ⟨j, hj, rfl⟩ := List.getElem_of_mem hq
    rw [List.length_take, List.length_drop] at hj
    rw [List.getElem_take, List.getElem_drop, ← gd_lt (by omega)]
    simpa using h2 _ (by omega) (by omega)
  have f3 : ((l.drop a).drop m).filter (fun s => decide (s.n = nd)) = [] := by
    refine List.filter_eq_nil_iff.2 ?_
    intro q hq
    rw [List.drop_drop] at hq
    obtain ⟨j, hj, rfl⟩ := List.getElem_of_mem hq
    rw [List.length_drop] at hj
    rw [List.getElem_drop, ← gd_lt (by omega)]
    simpa using h3 _ (by omega) (by omega)
  rw [f1, f2, f3]
  simp
theorem drop_take_snoc {l : List Sd} {a m : Nat} (h : a + m < l.length) : ((l.drop a).take (m + 1)).map (·.f) = ((l.drop a).take m).map (·.f) ++ [(gd l (a + m)).f] := by
  rw [List.take_add_one, List.map_append, gd_lt h, List.getElem?_drop, List.getElem?_eq_getElem h]
  rfl
/-- The seeds at a node among the first i. -/
def seedI (l : List Sd) (nd : Int) (i : Nat) : List Int := seedF (l.take i) nd
theorem seedI_succ {l : List Sd} {nd : Int} {i : Nat} (h : i < l.length) : seedI l nd (i + 1) = seedI l nd i ++ (if (gd l i).n = nd then [(gd l i).f] else []) := by
  unfold seedI seedF
  rw [List.take_add_one, List.filter_append, List.map_append, gd_lt h, List.getElem?_eq_getElem h]
  congr 1
  by_cases e : l[i].n = nd
  · simp [e]
  · simp [e]
theorem seedI_all {l : List Sd} {nd : Int} {n : Nat} (h : l.length ≤ n) : seedI l nd n = seedF l nd := by
  unfold seedI
  rw [List.take_of_length_le h]
/-- What the first i pairs yield. -/
def apI (f : List Pr) (l : List Int) (i : Nat) : List Int := apO (f.take i) l
theorem apI_succ {f : List Pr} {l : List Int} {i : Nat} (h : i < f.length) : apI f l (i + 1) = apI f l i ++ (if (gp f i).o ≠ 0 ∧ ((gp f i).i = 0 ∨ (gp f i).i ∈ l) then [(gp f i).o] else []) := by
  unfold apI apO
  rw [List.take_add_one, List.filter_append, List.map_append, gp_lt h, List.getElem?_eq_getElem h]
  congr 1
  by_cases e : f[i].o ≠ 0 ∧ (f[i].i = 0 ∨ f[i].i ∈ l)
  · rw [if_pos e]
    obtain ⟨e1, e2⟩ := e
    rcases e2 with e2 | e2
    · simp [e1, e2]
    · simp [e1, e2]
  · rw [if_neg e]
    have h9 : ¬ f[i].o = 0 → ¬ f[i].i = 0 ∧ ¬ f[i].i ∈ l := fun h8 => ⟨fun h7 => e ⟨h8, Or.inl h7⟩, fun h7 => e ⟨h8, Or.inr h7⟩⟩
    simpa using h9
theorem apI_all {f : List Pr} {l : List Int} {n : Nat} (h : f.length ≤ n) : apI f l n = apO f l := by
  unfold apI
  rw [List.take_of_length_le h]
theorem apI_len (f : List Pr) (l : List Int) (i : Nat) : (apI f l i).length ≤ i := by
  unfold apI apO
  rw [List.length_map]
  exact Nat.le_trans (List.length_filter_le _ _) (by rw [List.length_take]; omega)
theorem seedI_len (l : List Sd) (nd : Int) (i : Nat) : (seedI l nd i).length ≤ i := by
  unfold seedI seedF
  rw [List.length_map]
  exact Nat.le_trans (List.length_filter_le _ _) (by rw [List.length_take]; omega)
end If
end Go.Df
/- Trails in plain words: their error; the end of a trail is in the solution; every fact along a path has a trail. -/
namespace Go.Df
open Go.RowKit
namespace If
open Sp
/-- Does an edge connect two facts? -/
def linkB (p : Pb) (k : Nat) (a b : Int) : Bool := decide ((⟨a, b⟩ : Pr) ∈ gf p.fl k) || (decide (a = 0) && decide (b ∈ seedF p.sd (ge p.es k).b))
theorem linkB_iff {p : Pb} {k : Nat} {a b : Int} : linkB p k a b = true ↔ (⟨a, b⟩ : Pr) ∈ gf p.fl k ∨ (a = 0 ∧ b ∈ seedF p.sd (ge p.es k).b) := by simp [linkB]
theorem seedF_mem {sd : List Sd} {nd y : Int} : y ∈ seedF sd nd ↔ (⟨nd, y⟩ : Sd) ∈ sd := by
  unfold seedF
  rw [List.mem_map]
  constructor
  · rintro ⟨s, h1, h2⟩
    rw [List.mem_filter] at h1
    obtain ⟨h3, h4⟩ := h1
    have h4 := of_decide_eq_true h4
    obtain ⟨n, f⟩ := s
    dsimp only at h2 h4
    subst h2 h4
    exact h3
  · intro h
    exact ⟨⟨nd, y⟩, by rw [List.mem_filter]; exact ⟨h, by simp⟩, rfl⟩
/-- The error of the facts of a trail of a valid problem along a valid path. -/
def rngErr (F : Int) (fs : List Int) (j : Nat) : Int := if gi fs j < 0 ∨ F ≤ gi fs j then 4 else 0
def lnkErr (p : Pb) (ed fs : List Int) (j : Nat) : Int := if linkB p (gi ed j).toNat (gi fs j) (gi fs (j + 1)) = false then 1 else 0
def factErr (p : Pb) (ed fs : List Int) : Int :=
  if fe (rngErr p.F fs) 0 fs.length ≠ 0 then fe (rngErr p.F fs) 0 fs.length
  else if gi fs 0 ≠ 0 ∧ gi fs 0 ∉ seedF p.sd p.mn then 1 else fe (lnkErr p ed fs) 0 ed.length
def trErr (p : Pb) (ed fs : List Int) : Int :=
  if pbErr p ≠ 0 then pbErr p else if fs.length ≠ ed.length + 1 then 20
  else if (followS p.ns p.es p.mn p.mn ed).1 ≠ 0 then (followS p.ns p.es p.mn p.mn ed).1 else factErr p ed fs
/-- A trail along a path. -/
structure Tr (p : Pb) (ed fs : List Int) : Prop where
  len : fs.length = ed.length + 1
  rng : ∀ j, j < fs.length → 0 ≤ gi fs j ∧ gi fs j < p.F
  st : gi fs 0 = 0 ∨ gi fs 0 ∈ seedF p.sd p.mn
  lnk : ∀ j, j < ed.length → linkB p (gi ed j).toNat (gi fs j) (gi fs (j + 1)) = true
theorem factErr_iff {p : Pb} {ed fs : List Int} (hl : fs.length = ed.length + 1) : factErr p ed fs = 0 ↔ Tr p ed fs := by
  unfold factErr
  constructor
  · intro h
    split at h
    · rename_i h1; exact absurd h h1
    · rename_i h1
      have h1 : fe (rngErr p.F fs) 0 fs.length = 0 := Decidable.byContradiction h1
      split at h
      · cases h
      · rename_i h2
        refine ⟨hl, fun j hj => ?_, ?_, fun j hj => ?_⟩
        · have := fe_zero _ _ h1 j (Nat.zero_le _) (by omega)
          unfold rngErr at this
          split at this
          · cases this
          · omega
        · by_cases h3 : gi fs 0 = 0
          · exact Or.inl h3
          · exact Or.inr (Decidable.byContradiction fun h4 => h2 ⟨h3, h4⟩)
        · have := fe_zero _ _ h j (Nat.zero_le _) (by omega)
          unfold lnkErr at this
          split at this
          · cases this
          · rename_i h3; simpa using h3
  · intro h
    have h1 : fe (rngErr p.F fs) 0 fs.length = 0 := fe_ok fs.length 0 (fun i _ hi => by
      have := h.rng i (by omega)
      unfold rngErr
      rw [if_neg (by omega)])
    rw [if_neg (not_not_intro h1), if_neg (fun h2 => by rcases h.st with h3 | h3; exact h2.1 h3; exact h2.2 h3)]
    exact fe_ok ed.length 0 (fun i _ hi => by
      unfold lnkErr
      rw [if_neg (by rw [h.lnk i (by omega)]; simp)])
/-- The pending calls of a frame that begins at node s with fact a. -/
def SOK (p : Pb) : List Int → Nat → Nat → Prop
  | [], s, _ => s = p.mn.toNat
  | c :: cs, s, a => ∃ k q s' a', k < p.es.length ∧ (ge p.es k).k = 2 ∧ (ge p.es k).a = c ∧ (ge p.es k).b.toNat = s ∧ q ∈ gf p.fl k ∧ q.o.toNat = a ∧ PE p a' c.toNat q.i.toNat ∧ (gn p.ns c.toNat).f = (gn p.ns s').f ∧ SOK p cs s' a'
def ZOK (p : Pb) : List Int → Nat → Prop
  | [], s => s = p.mn.toNat
  | c :: cs, s => ∃ k s', k < p.es.length ∧ (ge p.es k).k = 2 ∧ (ge p.es k).a = c ∧ (ge p.es k).b.toNat = s ∧ PE p 0 c.toNat 0 ∧ (gn p.ns c.toNat).f = (gn p.ns s').f ∧ ZOK p cs s'
theorem Ok.zz {p : Pb} (h : Ok p) {k : Nat} (hk : k < p.es.length) : (⟨0, 0⟩ : Pr) ∈ gf p.fl k := by
  have h1 := h.fl k (by rw [h.len]; exact hk)
  rw [← h1.2.2.2]
  exact gp_mem h1.2.2.1
theorem ZOK.sok {p : Pb} (h : Ok p) : ∀ (cs : List Int) {s : Nat}, ZOK p cs s → SOK p cs s 0
  | [], _, hz => hz
  | _ :: cs, _, ⟨k, s', h1, h2, h3, h4, h5, h6, h7⟩ => ⟨k, ⟨0, 0⟩, s', 0, h1, h2, h3, h4, h.zz h1, rfl, h5, h6, ZOK.sok h cs h7⟩
/-- Fact d holds at node n in a frame with these pending calls. -/
def IV (p : Pb) (n : Int) (d : Int) (cs : List Int) : Prop := ∃ s a, PE p a n.toNat d.toNat ∧ (gn p.ns n.toNat).f = (gn p.ns s).f ∧ SOK p cs s a
def IZ (p : Pb) (n : Int) (cs : List Int) : Prop := ∃ s, PE p 0 n.toNat 0 ∧ (gn p.ns n.toNat).f = (gn p.ns s).f ∧ ZOK p cs s
theorem iv_step {p : Pb} (h : Ok p) {a : Int} {cs : List Int} {k : Int} (h1 : (stepS p.es a cs k).1 = 0) {q : Pr} (hq : q ∈ gf p.fl k.toNat) (hv : IV p a q.i cs) : IV p (stepS p.es a cs k).2.1 q.o (stepS p.es a cs k).2.2 := by
  obtain ⟨s, b, hp, hf, hS⟩ := hv
  unfold stepS at h1 ⊢
  split at h1
  · cases h1
  rename_i g1
  rw [if_neg g1]
  have hk : k.toNat < p.es.length := by omega
  have he := sup_edge h.sup hk
  split at h1
  · cases h1
  rename_i g2
  rw [if_neg g2]
  have g2 : (ge p.es k.toNat).a = a := Decidable.byContradiction g2
  subst g2
  split at h1
  · rename_i g3
    rw [if_pos g3]
    split at h1
    · cases h1
    rename_i g4
    rw [if_neg g4]
    cases cs with
    | nil => exact absurd (.inl rfl) g4
    | cons c cs =>
      have hc : gi (c :: cs) 0 = (ge p.es k.toNat).c := Decidable.byContradiction fun h9 => g4 (.inr h9)
      have hc : c = (ge p.es k.toNat).c := by rw [← hc]; simp [gi]
      obtain ⟨kc, q0, s', a', k1, k2, k3, k4, k5, k6, k7, k8, k9⟩ := hS
      have hr := Rc.ret_edge h.sup hk g3
      refine ⟨s', a', ?_, ?_, k9⟩
      · subst k4 k6
        exact .ret k1 k2 k5 hk g3 hq (by rw [k3, hc]) hf.symm (by rw [k3]; exact k7) hp
      · dsimp only
        rw [hr.1, ← hc, k8]
  · rename_i g3
    rw [if_neg g3]
    by_cases g5 : (ge p.es k.toNat).k = 2
    · rw [if_pos g5]
      refine ⟨(ge p.es k.toNat).b.toNat, q.o.toNat, .call hk g5 hq hp, rfl, k.toNat, q, s, b, hk, g5, rfl, rfl, hq, rfl, hp, hf, hS⟩
    · rw [if_neg g5]
      have g6 : (ge p.es k.toNat).k = 1 ∨ (ge p.es k.toNat).k = 5 := by omega
      exact ⟨s, b, .flow hk g6 hq hp, (Rc.flow_edge h.sup hk g6).symm.trans hf, hS⟩
theorem iz_step {p : Pb} (h : Ok p) {a : Int} {cs : List Int} {k : Int} (h1 : (stepS p.es a cs k).1 = 0) (hv : IZ p a cs) : IZ p (stepS p.es a cs k).2.1 (stepS p.es a cs k).2.2 := by
  obtain ⟨s, hp, hf, hS⟩ := hv
  unfold stepS at h1 ⊢
  split at h1
  · cases h1
  rename_i g1
  rw [if_neg g1]
  have hk : k.toNat < p.es.length := by omega
  have he := sup_edge h.sup hk
  have hz := h.zz hk
  split at h1
  · cases h1
  rename_i g2
  rw [if_neg g2]
  have g2 : (ge p.es k.toNat).a = a := Decidable.byContradiction g2
  subst g2
  split at h1
  · rename_i g3
    rw [if_pos g3]
    split at h1
    · cases h1
    rename_i g4
    rw [if_neg g4]
    cases cs with
    | nil => exact absurd (.inl rfl) g4
    | cons c cs =>
      have hc : gi (c :: cs) 0 = (ge p.es k.toNat).c := Decidable.byContradiction fun h9 => g4 (.inr h9)
      have hc : c = (ge p.es k.toNat).c := by rw [← hc]; simp [gi]
      obtain ⟨kc, s', k1, k2, k3, k4, k7, k8, k9⟩ := hS
      have hr := Rc.ret_edge h.sup hk g3
      refine ⟨s', ?_, ?_, k9⟩
      · subst k4
        exact PE.ret (q := ⟨0, 0⟩) (s := ⟨0, 0⟩) k1 k2 (h.zz k1) hk g3 hz (by rw [k3, hc]) hf.symm (by rw [k3]; exact k7) hp
      · dsimp only
        rw [hr.1, ← hc, k8]
  · rename_i g3
    rw [if_neg g3]
    by_cases g5 : (ge p.es k.toNat).k = 2
    · rw [if_pos g5]
      exact ⟨(ge p.es k.toNat).b.toNat, PE.call (q := ⟨0, 0⟩) hk g5 hz hp, rfl, k.toNat, s, hk, g5, rfl, rfl, hp, hf, hS⟩
    · rw [if_neg g5]
      have g6 : (ge p.es k.toNat).k = 1 ∨ (ge p.es k.toNat).k = 5 := by omega
      exact ⟨s, PE.flow (q := ⟨0, 0⟩) hk g6 hz hp, (Rc.flow_edge h.sup hk g6).symm.trans hf, hS⟩
theorem step_at {es : List Ed} {a : Int} {cs : List Int} {k : Int} (h1 : (stepS es a cs k).1 = 0) : (stepS es a cs k).2.1 = (ge es k.toNat).b ∧ 0 ≤ k ∧ k < es.length := by
  unfold stepS at h1 ⊢
  split at h1
  · cases h1
  rename_i g1
  rw [if_neg g1]
  refine ⟨?_, by omega, by omega⟩
  split at h1
  · cases h1
  rename_i g2
  rw [if_neg g2]
  split at h1
  · rename_i g3
    rw [if_pos g3]
    split at h1
    · cases h1
    rename_i g4
    rw [if_neg g4]
  · rename_i g3
    rw [if_neg g3]
    split <;> rfl
/-- One edge of a trail. -/
theorem iv_link {p : Pb} (h : Ok p) {a : Int} {cs : List Int} {k d e : Int} (h1 : (stepS p.es a cs k).1 = 0) (hl : linkB p k.toNat d e = true) (hv : IV p a d cs) (hz : IZ p a cs) : IV p (stepS p.es a cs k).2.1 e (stepS p.es a cs k).2.2 := by
  rcases linkB_iff.1 hl with h2 | ⟨rfl, h2⟩
  · exact iv_step h h1 h2 hv
  · obtain ⟨s, z1, z2, z3⟩ := iz_step h h1 hz
    refine ⟨s, 0, ?_, z2, z3.sok h⟩
    rw [(step_at h1).1] at z1 ⊢
    exact PE.seed (s := ⟨(ge p.es k.toNat).b, e⟩) z1 (seedF_mem.1 h2)
theorem trail_run {p : Pb} (h : Ok p) : ∀ (ed : List Int) (a : Int) (cs : List Int) (d : Int) (fs : List Int), fs.length = ed.length → IV p a d cs → IZ p a cs → (∀ j, j < ed.length → linkB p (gi ed j).toNat (gi (d :: fs) j) (gi (d :: fs) (j + 1)) = true) → (runS p.es a cs ed).1 = 0 →
    IV p (runS p.es a cs ed).2.1 (gi (d :: fs) ed.length) (runS p.es a cs ed).2.2 ∧ IZ p (runS p.es a cs ed).2.1 (runS p.es a cs ed).2.2
  | [], a, cs, d, fs, _, hv, hz, _, _ => ⟨hv, hz⟩
  | k :: r, a, cs, d, fs, hl, hv, hz, hk, h1 => by
    unfold runS at h1 ⊢
    split at h1
    · rename_i g1; exact absurd h1 g1
    rename_i g1
    rw [if_neg g1]
    have g1 : (stepS p.es a cs k).1 = 0 := Decidable.byContradiction g1
    cases fs with
    | nil => simp at hl
    | cons e fs =>
      have hl2 : linkB p k.toNat d e = true := by
        have := hk 0 (by simp)
        simpa [gi] using this
      refine trail_run h r _ _ e fs (by simpa using hl) (iv_link h g1 hl2 hv hz) (iz_step h g1 hz) (fun j hj => ?_) h1
      have := hk (j + 1) (by simpa using hj)
      simpa [gi] using this
theorem run_at {es : List Ed} : ∀ (ed : List Int) (a : Int) (cs : List Int), (runS es a cs ed).1 = 0 → (runS es a cs ed).2.1 = if ed.length = 0 then a else (ge es (gi ed (ed.length - 1)).toNat).b
  | [], a, cs, _ => by simp [runS]
  | k :: r, a, cs, h1 => by
    unfold runS at h1 ⊢
    split at h1
    · rename_i g1; exact absurd h1 g1
    rename_i g1
    rw [if_neg g1]
    have g1 : (stepS es a cs k).1 = 0 := Decidable.byContradiction g1
    cases r with
    | nil =>
      rw [if_neg (by simp)]
      simp only [runS]
      rw [(step_at g1).1]
      simp [gi]
    | cons k2 r =>
      rw [run_at (k2 :: r) _ _ h1, if_neg (by simp), if_neg (by simp)]
      simp [gi]
theorem follow_run {ns : List Nd} {es : List Ed} {mn fr : Int} {path : List Int} (h : (followS ns es mn fr path).1 = 0) : followS ns es mn fr path = runS es fr [] path ∧ (runS es fr [] path).1 = 0 ∧ path.length ≤ 4096 := by
  unfold followS at h ⊢
  split at h
  · rename_i g1; exact absurd h g1
  rename_i g1
  rw [if_neg g1]
  split at h
  · cases h
  rename_i g2
  rw [if_neg g2]
  exact ⟨rfl, h, by omega⟩
/-- The end of a trail: its last fact holds there. -/
theorem trail_end {p : Pb} (h : Ok p) {ed fs : List Int} (ht : Tr p ed fs) (hf : (followS p.ns p.es p.mn p.mn ed).1 = 0) :
    (∃ a, PE p a (if ed.length = 0 then p.mn else (ge p.es (gi ed (ed.length - 1)).toNat).b).toNat (gi fs ed.length).toNat) ∧ PE p 0 (if ed.length = 0 then p.mn else (ge p.es (gi ed (ed.length - 1)).toNat).b).toNat 0 := by
  obtain ⟨h1, h2, -⟩ := follow_run hf
  obtain ⟨fl, fr, fst, flk⟩ := ht
  cases fs with
  | nil => simp at fl
  | cons d fs =>
    have e0 : gi (d :: fs) 0 = d := by simp [gi]
    rw [e0] at fst
    have hz : IZ p p.mn [] := ⟨p.mn.toNat, .main, rfl, rfl⟩
    have hv : IV p p.mn d [] := by
      refine ⟨p.mn.toNat, 0, ?_, rfl, rfl⟩
      rcases fst with rfl | h3
      · exact .main
      · exact PE.seed (s := ⟨p.mn, d⟩) .main (seedF_mem.1 h3)
    obtain ⟨⟨s, a, g1, -, -⟩, ⟨s', g2, -, -⟩⟩ := trail_run h ed p.mn [] d fs (by simpa using fl) hv hz flk h2
    rw [run_at ed _ _ h2] at g1 g2
    exact ⟨⟨a, g1⟩, g2⟩
theorem joinF_mem {a b : List Int} {y : Int} : y ∈ joinF a b ↔ y ∈ a ∨ y ∈ b := by
  unfold joinF
  rw [ascF_mem, List.mem_append]
theorem apO_mem {f : List Pr} {l : List Int} {y : Int} : y ∈ apO f l ↔ y ≠ 0 ∧ ∃ a, (a = 0 ∨ a ∈ l) ∧ (⟨a, y⟩ : Pr) ∈ f := by
  unfold apO
  rw [List.mem_map]
  constructor
  · rintro ⟨⟨i, o⟩, h1, rfl⟩
    rw [List.mem_filter] at h1
    obtain ⟨h2, h3⟩ := h1
    simp at h3
    exact ⟨h3.1, i, h3.2, h2⟩
  · rintro ⟨h1, a, h2, h3⟩
    refine ⟨⟨a, y⟩, ?_, rfl⟩
    rw [List.mem_filter]
    refine ⟨h3, ?_⟩
    simp [h1, h2]
theorem stepF_mem {p : Pb} {l : List Int} {k y : Int} : y ∈ stepF p l k ↔ (y ≠ 0 ∧ ∃ a, (a = 0 ∨ a ∈ l) ∧ (⟨a, y⟩ : Pr) ∈ gf p.fl k.toNat) ∨ y ∈ seedF p.sd (ge p.es k.toNat).b := by
  unfold stepF applyF
  rw [joinF_mem, ascF_mem, apO_mem]
theorem alongF_snoc (p : Pb) (path : List Int) (k : Int) : alongF p (path ++ [k]) = stepF p (alongF p path) k := by
  unfold alongF
  rw [List.foldl_append]
  rfl
/-- A fact behind one more edge has a fact ahead of it. -/
theorem along_link {p : Pb} (h : Ok p) {path : List Int} {k : Int} (hk : k.toNat < p.es.length) {d : Int} (hd : d = 0 ∨ d ∈ alongF p (path ++ [k])) : ∃ a, (a = 0 ∨ a ∈ alongF p path) ∧ linkB p k.toNat a d = true := by
  rcases hd with rfl | hd
  · exact ⟨0, .inl rfl, linkB_iff.2 (.inl (h.zz hk))⟩
  · rw [alongF_snoc, stepF_mem] at hd
    rcases hd with ⟨-, a, h1, h2⟩ | h1
    · exact ⟨a, h1, linkB_iff.2 (.inl h2)⟩
    · exact ⟨0, .inl rfl, linkB_iff.2 (.inr ⟨rfl, h1⟩)⟩
theorem seed_rng {p : Pb} (h : Ok p) {nd y : Int} (hy : y ∈ seedF p.sd nd) : 1 ≤ y ∧ y < p.F := by
  have := h.seed (seedF_mem.1 hy)
  exact this.2.2
/-- Facts along a valid path are facts other than Zero. -/
theorem along_rng {p : Pb} (h : Ok p) : ∀ (path l : List Int), (∀ j, j < path.length → 0 ≤ gi path j ∧ gi path j < p.es.length) → (∀ y ∈ l, 1 ≤ y ∧ y < p.F) → ∀ y ∈ path.foldl (stepF p) l, 1 ≤ y ∧ y < p.F
  | [], l, _, hl, y, hy => hl y hy
  | k :: r, l, hk, hl, y, hy => by
    have h0 := hk 0 (by simp)
    have e0 : gi (k :: r) 0 = k := by simp [gi]
    rw [e0] at h0
    refine along_rng h r _ (fun j hj => ?_) (fun z hz => ?_) y hy
    · have := hk (j + 1) (by simpa using hj)
      simpa [gi] using this
    · rw [stepF_mem] at hz
      rcases hz with ⟨hz, a, -, h2⟩ | hz
      · have := h.pair (by rw [h.len]; omega) h2
        dsimp only at this
        omega
      · exact seed_rng h hz
theorem alongF_rng {p : Pb} (h : Ok p) {path : List Int} (hk : ∀ j, j < path.length → 0 ≤ gi path j ∧ gi path j < p.es.length) : ∀ y ∈ alongF p path, 1 ≤ y ∧ y < p.F :=
  along_rng h path _ hk fun y hy => by
    rw [joinF_mem] at hy
    rcases hy with hy | hy
    · exact seed_rng h hy
    · simp at hy
/-- A trail with one more edge. -/
theorem Tr.snoc {p : Pb} {ed fs : List Int} (h : Tr p ed fs) {k d : Int} (hd : 0 ≤ d ∧ d < p.F) (hl : linkB p k.toNat (gi fs ed.length) d = true) : Tr p (ed ++ [k]) (fs ++ [d]) := by
  have hlen := h.len
  have g1 : ∀ j, j < fs.length → gi (fs ++ [d]) j = gi fs j := fun j hj => by rw [gi_lt (by simp; omega), gi_lt hj, List.getElem_append_left hj]
  have g2 : gi (fs ++ [d]) fs.length = d := by rw [gi_lt (by simp)]; simp
  have g3 : ∀ j, j < ed.length → gi (ed ++ [k]) j = gi ed j := fun j hj => by rw [gi_lt (by simp; omega), gi_lt hj, List.getElem_append_left hj]
  have g4 : gi (ed ++ [k]) ed.length = k := by rw [gi_lt (by simp)]; simp
  refine ⟨by simp [hlen], fun j hj => ?_, ?_, fun j hj => ?_⟩
  · rcases Nat.lt_or_ge j fs.length with h1 | h1
    · rw [g1 j h1]; exact h.rng j h1
    · obtain rfl : j = fs.length := by simp at hj; omega
      rw [g2]; exact hd
  · rw [g1 0 (by omega)]; exact h.st
  · rcases Nat.lt_or_ge j ed.length with h1 | h1
    · rw [g1 j (by omega), g1 (j + 1) (by omega), g3 j h1]; exact h.lnk j h1
    · obtain rfl : j = ed.length := by simp at hj; omega
      rw [g4, g1 _ (by omega), ← hlen, g2]
      exact hl
end If
end Go.Df
/- The solution of a problem is what holds along its valid paths. No program in sight. -/
namespace Go.Df
open Go.RowKit
namespace If
open Sp Rc
/-- Path edges, with the start of their function. -/
inductive PES (p : Pb) : Nat → Nat → Nat → Nat → Prop
  | main : PES p p.mn.toNat 0 p.mn.toNat 0
  | seed {x : Nat} {s : Sd} : PES p x 0 s.n.toNat 0 → s ∈ p.sd → PES p x 0 s.n.toNat s.f.toNat
  | flow {x a k : Nat} {q : Pr} : k < p.es.length → ((ge p.es k).k = 1 ∨ (ge p.es k).k = 5) → q ∈ gf p.fl k → PES p x a (ge p.es k).a.toNat q.i.toNat → PES p x a (ge p.es k).b.toNat q.o.toNat
  | call {x a k : Nat} {q : Pr} : k < p.es.length → (ge p.es k).k = 2 → q ∈ gf p.fl k → PES p x a (ge p.es k).a.toNat q.i.toNat → PES p (ge p.es k).b.toNat q.o.toNat (ge p.es k).b.toNat q.o.toNat
  | ret {x a c r : Nat} {q s : Pr} : c < p.es.length → (ge p.es c).k = 2 → q ∈ gf p.fl c → r < p.es.length → ((ge p.es r).k = 3 ∨ (ge p.es r).k = 4) → s ∈ gf p.fl r → (ge p.es c).a = (ge p.es r).c →
      PES p x a (ge p.es c).a.toNat q.i.toNat → PES p (ge p.es c).b.toNat q.o.toNat (ge p.es r).a.toNat s.i.toNat → PES p x a (ge p.es r).b.toNat s.o.toNat
theorem PES.start {p : Pb} (h : Ok p) {x a n d : Nat} (hp : PES p x a n d) : x < p.ns.length ∧ n < p.ns.length ∧ (gn p.ns x).k = 1 ∧ (gn p.ns x).f = (gn p.ns n).f := by
  have hm := main_in (sup_parts h.sup).2.2.1
  induction hp with
  | main => exact ⟨by omega, by omega, hm.2.2, rfl⟩
  | seed _ _ ih => exact ih
  | flow hk h2 _ _ ih => have := sup_edge h.sup hk; exact ⟨ih.1, by omega, ih.2.2.1, ih.2.2.2.trans (flow_edge h.sup hk h2)⟩
  | call hk h2 _ _ ih => have := sup_edge h.sup hk; exact ⟨by omega, by omega, (call_edge h.sup hk h2).1, rfl⟩
  | ret hc h2 _ hr h3 _ h4 _ _ ih1 ih2 =>
    have := sup_edge h.sup hr
    refine ⟨ih1.1, by omega, ih1.2.2.1, ?_⟩
    rw [ih1.2.2.2, (ret_edge h.sup hr h3).1, h4]
theorem PE.pes {p : Pb} (h : Ok p) {a n d : Nat} (hp : PE p a n d) : ∃ x, PES p x a n d := by
  induction hp with
  | main => exact ⟨_, .main⟩
  | seed _ hs ih => obtain ⟨x, ih⟩ := ih; exact ⟨x, .seed ih hs⟩
  | flow hk h2 hq _ ih => obtain ⟨x, ih⟩ := ih; exact ⟨x, .flow hk h2 hq ih⟩
  | call hk h2 hq _ ih => obtain ⟨x, ih⟩ := ih; exact ⟨_, .call hk h2 hq ih⟩
  | ret hc h2 hq hr h3 hs e1 e2 _ _ ih1 ih2 =>
    obtain ⟨x, ih1⟩ := ih1
    obtain ⟨y, ih2⟩ := ih2
    have h5 := ih2.start h
    have h6 := call_edge h.sup hc h2
    have h7 := sup_edge h.sup hc
    have e : y = (ge p.es _).b.toNat := start_one h.sup h5.1 (by omega) h5.2.2.1 h6.1 (h5.2.2.2.trans e2.symm)
    subst e
    exact ⟨x, .ret hc h2 hq hr h3 hs e1 ih1 ih2⟩
/-- A fact holds along a path. -/
def Al (p : Pb) (path : List Int) (d : Int) : Prop := d = 0 ∨ d ∈ alongF p path
theorem Al.link {p : Pb} {path : List Int} {k a d : Int} (h : Al p path a) (hl : linkB p k.toNat a d = true) : Al p (path ++ [k]) d := by
  by_cases h0 : d = 0
  · exact Or.inl h0
  · right
    rw [alongF_snoc, stepF_mem]
    rcases linkB_iff.1 hl with h1 | ⟨-, h1⟩
    · exact Or.inl ⟨h0, a, h, h1⟩
    · exact Or.inr h1
theorem runS_append {es : List Ed} : ∀ (pa pb : List Int) {a n : Int} {cs st : List Int}, runS es a cs pa = (0, n, st) → runS es a cs (pa ++ pb) = runS es n st pb
  | [], pb, a, n, cs, st, h => by
    rw [runS] at h
    injection h with _ h
    injection h with h1 h2
    rw [List.nil_append, h1, h2]
  | k :: r, pb, a, n, cs, st, h => by
    rw [List.cons_append, runS]
    rw [runS] at h
    split at h
    · rename_i h0
      injection h with h1 _
      exact absurd h1 h0
    · rename_i h0
      rw [if_neg h0]
      exact runS_append r pb h
theorem runS_one {es : List Ed} {a n : Int} {cs st : List Int} {k : Int} (h : stepS es a cs k = (0, n, st)) : runS es a cs [k] = (0, n, st) := by
  rw [runS, if_neg (by rw [h]; simp), h]
  rfl
/-- A path from Main to a node, with its pending calls. -/
def To (p : Pb) (path : List Int) (n : Nat) (st : List Int) : Prop := runS p.es p.mn [] path = (0, (n : Int), st)
theorem To.more {p : Pb} {path : List Int} {n m : Nat} {st st' : List Int} {k : Nat} (h : To p path n st) (hs : stepS p.es n st k = (0, (m : Int), st')) : To p (path ++ [(k : Int)]) m st' := by
  unfold To at *
  rw [runS_append path [(k : Int)] h]
  exact runS_one hs
theorem step_flow {p : Pb} (ho : Ok p) {k : Nat} (hk : k < p.es.length) (h1 : (ge p.es k).k = 1 ∨ (ge p.es k).k = 5) (st : List Int) : stepS p.es (ge p.es k).a.toNat st k = (0, ((ge p.es k).b.toNat : Int), st) := by
  have he := sup_edge ho.sup hk
  unfold stepS
  rw [if_neg (by omega), Int.toNat_natCast, if_neg (by omega), if_neg (by omega), if_neg (by omega)]
  rw [show (((ge p.es k).b.toNat : Nat) : Int) = (ge p.es k).b by omega]
theorem step_call {p : Pb} (ho : Ok p) {k : Nat} (hk : k < p.es.length) (h1 : (ge p.es k).k = 2) (st : List Int) : stepS p.es (ge p.es k).a.toNat st k = (0, ((ge p.es k).b.toNat : Int), (ge p.es k).a :: st) := by
  have he := sup_edge ho.sup hk
  unfold stepS
  rw [if_neg (by omega), Int.toNat_natCast, if_neg (by omega), if_neg (by omega), if_pos h1]
  rw [show (((ge p.es k).b.toNat : Nat) : Int) = (ge p.es k).b by omega, show (((ge p.es k).a.toNat : Nat) : Int) = (ge p.es k).a by omega]
theorem step_ret {p : Pb} (ho : Ok p) {k : Nat} (hk : k < p.es.length) (h1 : (ge p.es k).k = 3 ∨ (ge p.es k).k = 4) (st : List Int) : stepS p.es (ge p.es k).a.toNat ((ge p.es k).c :: st) k = (0, ((ge p.es k).b.toNat : Int), st) := by
  have he := sup_edge ho.sup hk
  unfold stepS
  rw [if_neg (by omega), Int.toNat_natCast, if_neg (by omega), if_pos h1, if_neg (by simp [gi])]
  rw [show (((ge p.es k).b.toNat : Nat) : Int) = (ge p.es k).b by omega]
  rfl
theorem link_pair {p : Pb} {k : Nat} {q : Pr} (h : q ∈ gf p.fl k) (hi : 0 ≤ q.i) (ho : 0 ≤ q.o) : linkB p k ((q.i.toNat : Nat) : Int) ((q.o.toNat : Nat) : Int) = true := by
  rw [show ((q.i.toNat : Nat) : Int) = q.i by omega, show ((q.o.toNat : Nat) : Int) = q.o by omega]
  exact linkB_iff.2 (Or.inl h)
/-- A path edge can be followed. -/
theorem PES.ext {p : Pb} (ho : Ok p) {x a n d : Nat} (hp : PES p x a n d) : ∀ (path : List Int) (st : List Int), To p path x st → Al p path a → ∃ more, To p (path ++ more) n st ∧ Al p (path ++ more) d := by
  induction hp with
  | main => exact fun path st h ha => ⟨[], by rw [List.append_nil]; exact ⟨h, ha⟩⟩
  | @seed x s _ hs ih =>
    intro path st h ha
    obtain ⟨more, h1, -⟩ := ih path st h ha
    refine ⟨more, h1, Or.inr ?_⟩
    have hsd := ho.seed hs
    have hmem : ((s.f.toNat : Nat) : Int) ∈ seedF p.sd ((s.n.toNat : Nat) : Int) := by
      rw [show ((s.f.toNat : Nat) : Int) = s.f by omega, show ((s.n.toNat : Nat) : Int) = s.n by omega]
      exact seedF_mem.2 hs
    generalize path ++ more = pth at h1
    have hcase : pth = [] ∨ ∃ q k, pth = q ++ [k] := by
      rcases List.eq_nil_or_concat pth with h | ⟨q, k, h⟩
      · exact Or.inl h
      · exact Or.inr ⟨q, k, by rw [h, List.concat_eq_append]⟩
    rcases hcase with rfl | ⟨q, k, rfl⟩
    · unfold To at h1
      rw [runS] at h1
      injection h1 with _ h1
      injection h1 with h1 _
      show _ ∈ joinF (seedF p.sd p.mn) []
      rw [joinF_mem, h1]
      exact Or.inl hmem
    · unfold To at h1
      have h2 := run_at (q ++ [k]) p.mn [] (by rw [h1])
      rw [h1, if_neg (by simp)] at h2
      rw [alongF_snoc, stepF_mem]
      right
      have e : gi (q ++ [k]) ((q ++ [k]).length - 1) = k := by rw [gi_lt (by simp)]; simp
      rw [e] at h2
      dsimp only at h2
      rw [← h2]
      exact hmem
  | @flow x a k q hk h1 hq _ ih =>
    intro path st h ha
    obtain ⟨more, t1, t2⟩ := ih path st h ha
    have hr := ho.pair (by rw [ho.len]; exact hk) hq
    refine ⟨more ++ [(k : Int)], ?_, ?_⟩
    · rw [← List.append_assoc]; exact t1.more (step_flow ho hk h1 st)
    · rw [← List.append_assoc]; exact t2.link (by rw [Int.toNat_natCast]; exact link_pair hq hr.1 hr.2.2.1)
  | call _ _ _ _ _ => exact fun path st h ha => ⟨[], by rw [List.append_nil]; exact ⟨h, ha⟩⟩
  | @ret x a c r q s hc h2 hq hr h3 hs e1 _ _ ih1 ih2 =>
    intro path st h ha
    obtain ⟨m1, t1, t2⟩ := ih1 path st h ha
    have hrq := ho.pair (by rw [ho.len]; exact hc) hq
    have hrs := ho.pair (by rw [ho.len]; exact hr) hs
    have u1 := t1.more (step_call ho hc h2 st)
    have u2 : Al p (path ++ m1 ++ [(c : Int)]) ((q.o.toNat : Nat) : Int) := t2.link (by rw [Int.toNat_natCast]; exact link_pair hq hrq.1 hrq.2.2.1)
    obtain ⟨m2, v1, v2⟩ := ih2 _ _ u1 u2
    rw [e1] at v1
    have w1 := v1.more (step_ret ho hr h3 st)
    have w2 : Al p (path ++ m1 ++ [(c : Int)] ++ m2 ++ [(r : Int)]) ((s.o.toNat : Nat) : Int) := v2.link (by rw [Int.toNat_natCast]; exact link_pair hs hrs.1 hrs.2.2.1)
    refine ⟨m1 ++ [(c : Int)] ++ m2 ++ [(r : Int)], ?_, ?_⟩
    · have e : path ++ (m1 ++ [(c : Int)] ++ m2 ++ [(r : Int)]) = path ++ m1 ++ [(c : Int)] ++ m2 ++ [(r : Int)] := by simp
      rw [e]; exact w1
    · have e : path ++ (m1 ++ [(c : Int)] ++ m2 ++ [(r : Int)]) = path ++ m1 ++ [(c : Int)] ++ m2 ++ [(r : Int)] := by simp
      rw [e]; exact w2
/-- The start of a path edge is reached with its fact. -/
theorem PES.reach {p : Pb} (ho : Ok p) {x a n d : Nat} (hp : PES p x a n d) : ∃ path st, To p path x st ∧ Al p path a := by
  have hm := main_in (sup_parts ho.sup).2.2.1
  induction hp with
  | main => exact ⟨[], [], by unfold To; rw [runS]; rw [show ((p.mn.toNat : Nat) : Int) = p.mn by omega], Or.inl rfl⟩
  | seed _ _ ih => exact ih
  | flow _ _ _ _ ih => exact ih
  | @call x a k q hk h2 hq hp ih =>
    obtain ⟨path, st, t1, t2⟩ := ih
    obtain ⟨more, u1, u2⟩ := hp.ext ho path st t1 t2
    have hr := ho.pair (by rw [ho.len]; exact hk) hq
    exact ⟨_, _, u1.more (step_call ho hk h2 st), u2.link (by rw [Int.toNat_natCast]; exact link_pair hq hr.1 hr.2.2.1)⟩
  | ret _ _ _ _ _ _ _ _ _ ih1 _ => exact ih1
/-- What the solution says holds along a valid path. -/
theorem PE.path {p : Pb} (ho : Ok p) {a n d : Nat} (hp : PE p a n d) : ∃ path st, To p path n st ∧ Al p path d := by
  obtain ⟨x, h⟩ := hp.pes ho
  obtain ⟨path, st, t1, t2⟩ := h.reach ho
  obtain ⟨more, u1, u2⟩ := h.ext ho path st t1 t2
  exact ⟨_, st, u1, u2⟩
/-- What holds along a valid path is in the solution. -/
theorem path_iv {p : Pb} (ho : Ok p) : ∀ (m : Nat) (path : List Int) (n : Int) (st : List Int), path.length = m → runS p.es p.mn [] path = (0, n, st) → IZ p n st ∧ ∀ d, Al p path d → IV p n d st
  | 0, path, n, st, hl, h => by
    have e : path = [] := List.length_eq_zero_iff.1 hl
    subst e
    rw [runS] at h
    injection h with _ h
    injection h with h1 h2
    subst h1 h2
    refine ⟨⟨p.mn.toNat, .main, rfl, rfl⟩, fun d hd => ⟨p.mn.toNat, 0, ?_, rfl, rfl⟩⟩
    rcases hd with rfl | hd
    · exact .main
    · have hd : d ∈ joinF (seedF p.sd p.mn) [] := hd
      rw [joinF_mem] at hd
      rcases hd with hd | hd
      · exact PE.seed (s := ⟨p.mn, d⟩) .main (seedF_mem.1 hd)
      · simp at hd
  | m + 1, path, n, st, hl, h => by
    rcases List.eq_nil_or_concat path with e | ⟨q, k, e⟩
    · rw [e] at hl; simp at hl
    · rw [List.concat_eq_append] at e
      subst e
      have hq : q.length = m := by simpa using hl
      have h0 : (runS p.es p.mn [] q).1 = 0 := by
        have : ∀ (pa : List Int) (a : Int) (cs : List Int), (runS p.es a cs (pa ++ [k])).1 = 0 → (runS p.es a cs pa).1 = 0 := by
          intro pa
          induction pa with
          | nil => exact fun _ _ _ => rfl
          | cons y r ih =>
            intro a cs h
            rw [List.cons_append, runS] at h
            rw [runS]
            split at h
            · rename_i h0; exact absurd h h0
            · rename_i h0
              rw [if_neg h0]
              exact ih _ _ h
        exact this q p.mn [] (by rw [h])
      obtain ⟨n1, st1, h1⟩ : ∃ n1 st1, runS p.es p.mn [] q = (0, n1, st1) := ⟨_, _, by rw [← h0]⟩
      rw [runS_append q [k] h1, runS] at h
      split at h
      · rename_i g
        injection h with g1 _
        exact absurd g1 g
      · rename_i g
        have g := Decidable.byContradiction g
        rw [runS] at h
        injection h with _ h
        injection h with e1 e2
        obtain ⟨z1, z2⟩ := path_iv ho m q n1 st1 hq h1
        subst e1 e2
        have hk := step_at g
        refine ⟨iz_step ho g z1, fun d hd => ?_⟩
        obtain ⟨a, ha, hl⟩ := along_link ho (path := q) (k := k) (by omega) hd
        exact iv_link ho g hl (z2 a ha) z1
end If
end Go.Df
