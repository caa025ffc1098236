/- The reference's frames, in plain words: they end with the frames. No program in sight. -/
import Derived.Test.YtffkikhknabddaaUb
namespace Go.Df
open Go.RowKit
namespace Rc
open Sp If
/-- The frames seen so far, and the list of them in their order. -/
structure Fs where
  e : Nat → Nat → Bool
  q : List (Nat × Nat)
def fadd (f : Fs) (x : Nat × Nat) : Fs := if f.e x.1 x.2 = true then f else ⟨fun a b => f.e a b || (a == x.1 && b == x.2), f.q ++ [x]⟩
def retX (es : List Ed) (e : Nat → Nat → Bool) (fr c j : Nat) : List (Nat × Nat) := ((List.range j).filter fun k => retE es k && ((ge es k).c == (ge es c).a && e (ge es c).b.toNat (ge es k).a.toNat)).map fun k => (fr, (ge es k).b.toNat)
def resI (es : List Ed) (e : Nat → Nat → Bool) (r k j : Nat) : List (Nat × Nat) := ((List.range j).filter fun s => e s (ge es k).a.toNat).map fun s => (s, (ge es r).b.toNat)
def resC (es : List Ed) (fr r k : Nat) : Bool := (ge es k).k == 2 && ((ge es k).b == (fr : Int) && (ge es k).a == (ge es r).c)
def resX (es : List Ed) (e : Nat → Nat → Bool) (N fr r j : Nat) : List (Nat × Nat) := (List.range j).flatMap fun k => if resC es fr r k = true then resI es e r k N else []
def toX (es : List Ed) (e : Nat → Nat → Bool) (N s n k : Nat) : List (Nat × Nat) :=
  if (ge es k).a = n then (if (ge es k).k = 1 ∨ (ge es k).k = 5 then [(s, (ge es k).b.toNat)] else if (ge es k).k = 2 then ((ge es k).b.toNat, (ge es k).b.toNat) :: retX es e s k es.length else resX es e N s k es.length) else []
def fedge (es : List Ed) (N s n : Nat) (f : Fs) (k : Nat) : Fs := (toX es f.e N s n k).foldl fadd f
def fround (es : List Ed) (N s n j : Nat) (f : Fs) : Fs := (List.range j).foldl (fedge es N s n) f
theorem fadd_le (f : Fs) (x : Nat × Nat) {s n : Nat} (h : f.e s n = true) : (fadd f x).e s n = true := by
  unfold fadd
  split
  · exact h
  · simp [h]
theorem fadd_has (f : Fs) (x : Nat × Nat) : (fadd f x).e x.1 x.2 = true := by
  unfold fadd
  split
  · assumption
  · simp
theorem fadds_le : ∀ (l : List (Nat × Nat)) (f : Fs) {s n : Nat}, f.e s n = true → (l.foldl fadd f).e s n = true
  | [], _, _, _, h => h
  | x :: l, f, _, _, h => fadds_le l _ (fadd_le f x h)
theorem fadds_has : ∀ (l : List (Nat × Nat)) (f : Fs), ∀ x ∈ l, (l.foldl fadd f).e x.1 x.2 = true
  | y :: l, f, x, hx => by
    rw [List.foldl_cons]
    rcases List.mem_cons.1 hx with rfl | h
    · exact fadds_le l _ (fadd_has f x)
    · exact fadds_has l _ x h
theorem retX_mem {es : List Ed} {e : Nat → Nat → Bool} {fr c j : Nat} {x : Nat × Nat} : x ∈ retX es e fr c j ↔ ∃ k, k < j ∧ ((ge es k).k = 3 ∨ (ge es k).k = 4) ∧ (ge es k).c = (ge es c).a ∧ e (ge es c).b.toNat (ge es k).a.toNat = true ∧ x = (fr, (ge es k).b.toNat) := by
  unfold retX retE
  simp
  constructor
  · rintro ⟨k, ⟨h1, h2, h3, h4⟩, h5⟩; exact ⟨k, h1, h2, h3, h4, h5.symm⟩
  · rintro ⟨k, h1, h2, h3, h4, h5⟩; exact ⟨k, ⟨h1, h2, h3, h4⟩, h5.symm⟩
theorem resX_mem {es : List Ed} {e : Nat → Nat → Bool} {N fr r j : Nat} {x : Nat × Nat} : x ∈ resX es e N fr r j ↔ ∃ k, k < j ∧ (ge es k).k = 2 ∧ (ge es k).b = (fr : Int) ∧ (ge es k).a = (ge es r).c ∧ ∃ s, s < N ∧ e s (ge es k).a.toNat = true ∧ x = (s, (ge es r).b.toNat) := by
  unfold resX
  rw [List.mem_flatMap]
  constructor
  · rintro ⟨k, hk, h⟩
    split at h
    · rename_i hc
      unfold resC at hc
      unfold resI at h
      simp at hc h
      obtain ⟨s, ⟨h1, h2⟩, h3⟩ := h
      exact ⟨k, List.mem_range.1 hk, hc.1, hc.2.1, hc.2.2, s, h1, h2, h3.symm⟩
    · cases h
  · rintro ⟨k, hk, h1, h2, h3, s, h4, h5, h6⟩
    refine ⟨k, List.mem_range.2 hk, ?_⟩
    rw [if_pos (by unfold resC; simp [h1, h2, h3])]
    unfold resI
    simp
    exact ⟨s, ⟨h4, h5⟩, h6.symm⟩
/-- What the search keeps to; D tells the frames and edges that are done with. -/
structure Fi (es : List Ed) (m : Int) (N : Nat) (f : Fs) (D : Nat → Nat → Nat → Prop) : Prop where
  mn : f.e m.toNat m.toNat = true
  snd : ∀ s n, f.e s n = true → FR es m s n
  q : ∀ x, x ∈ f.q ↔ f.e x.1 x.2 = true
  dn : ∀ s n k, D s n k → f.e s n = true
  fl : ∀ s k, k < es.length → ((ge es k).k = 1 ∨ (ge es k).k = 5) → D s (ge es k).a.toNat k → f.e s (ge es k).b.toNat = true
  cl : ∀ s k, k < es.length → (ge es k).k = 2 → D s (ge es k).a.toNat k → f.e (ge es k).b.toNat (ge es k).b.toNat = true
  rt : ∀ s c r, c < es.length → (ge es c).k = 2 → r < es.length → ((ge es r).k = 3 ∨ (ge es r).k = 4) → (ge es r).c = (ge es c).a → D s (ge es c).a.toNat c → D (ge es c).b.toNat (ge es r).a.toNat r → f.e s (ge es r).b.toNat = true
theorem fadd_q {f : Fs} (h : ∀ x, x ∈ f.q ↔ f.e x.1 x.2 = true) (y : Nat × Nat) : ∀ x, x ∈ (fadd f y).q ↔ (fadd f y).e x.1 x.2 = true := by
  unfold fadd
  split
  · exact h
  · intro x
    simp [h x]
    obtain ⟨a, b⟩ := x
    obtain ⟨c, d⟩ := y
    simp
theorem fadds_q : ∀ (l : List (Nat × Nat)) {f : Fs}, (∀ x, x ∈ f.q ↔ f.e x.1 x.2 = true) → ∀ x, x ∈ (l.foldl fadd f).q ↔ (l.foldl fadd f).e x.1 x.2 = true
  | [], _, h => h
  | y :: l, _, h => fadds_q l (fadd_q h y)
theorem fadds_snd {es : List Ed} {m : Int} : ∀ (l : List (Nat × Nat)) {f : Fs}, (∀ x ∈ l, FR es m x.1 x.2) → (∀ s n, f.e s n = true → FR es m s n) → ∀ s n, (l.foldl fadd f).e s n = true → FR es m s n
  | [], _, _, h => h
  | y :: l, f, hl, h => by
    refine fadds_snd l (fun x hx => hl x (by simp [hx])) ?_
    unfold fadd
    split
    · exact h
    · intro s n hh
      simp at hh
      rcases hh with hh | ⟨rfl, rfl⟩
      · exact h s n hh
      · exact hl y (by simp)
section
variable {ns : List Nd} {es : List Ed} {m : Int} (hs : superErr ns es m = 0)
include hs
theorem toX_snd {f : Fs} (h : ∀ s n, f.e s n = true → FR es m s n) {N s n k : Nat} (hk : k < es.length) (hn : f.e s n = true) : ∀ x ∈ toX es f.e N s n k, FR es m x.1 x.2 := by
  intro x hx
  have he := sup_edge hs hk
  unfold toX at hx
  split at hx
  · rename_i ha
    have ha' : n = (ge es k).a.toNat := by omega
    subst ha'
    have hf := h _ _ hn
    split at hx
    · rename_i h1
      obtain rfl := List.mem_singleton.1 hx
      exact .flow hk h1 hf
    · split at hx
      · rename_i h1 h2
        rcases List.mem_cons.1 hx with rfl | hx
        · exact .call hk h2 hf
        · obtain ⟨r, hr, h3, h4, h5, rfl⟩ := retX_mem.1 hx
          exact .ret hk h2 hr h3 h4 hf (h _ _ h5)
      · rename_i h1 h2
        obtain ⟨c, hc, h3, h4, h5, t, ht, h6, rfl⟩ := resX_mem.1 hx
        have hb : (ge es c).b.toNat = s := by omega
        exact .ret hc h3 hk (by omega) h5.symm (h _ _ h6) (by rw [hb]; exact hf)
  · cases hx
theorem Fi.edge {N : Nat} (hN : N = ns.length) {f : Fs} {D : Nat → Nat → Nat → Prop} (h : Fi es m N f D) {s n k : Nat} (hk : k < es.length) (hn : f.e s n = true) :
    Fi es m N (fedge es N s n f k) (fun s' n' k' => D s' n' k' ∨ (s' = s ∧ n' = n ∧ k' = k)) := by
  have le : ∀ {a b : Nat}, f.e a b = true → (fedge es N s n f k).e a b = true := fun hh => fadds_le _ _ hh
  have has : ∀ x ∈ toX es f.e N s n k, (fedge es N s n f k).e x.1 x.2 = true := fadds_has _ _
  have hto : (ge es k).a = n → toX es f.e N s n k = (if (ge es k).k = 1 ∨ (ge es k).k = 5 then [(s, (ge es k).b.toNat)] else if (ge es k).k = 2 then ((ge es k).b.toNat, (ge es k).b.toNat) :: retX es f.e s k es.length else resX es f.e N s k es.length) := fun e => by unfold toX; rw [if_pos e]
  have he := sup_edge hs hk
  refine ⟨le h.mn, fadds_snd _ (toX_snd hs h.snd hk hn) h.snd, fadds_q _ h.q, ?_, ?_, ?_, ?_⟩
  · rintro s' n' k' (h1 | ⟨rfl, rfl, rfl⟩)
    · exact le (h.dn _ _ _ h1)
    · exact le hn
  · rintro s' k' hk' h2 (h1 | ⟨rfl, h3, rfl⟩)
    · exact le (h.fl _ _ hk' h2 h1)
    · refine has (s', (ge es k').b.toNat) ?_
      rw [hto (by omega), if_pos h2]
      simp
  · rintro s' k' hk' h2 (h1 | ⟨rfl, h3, rfl⟩)
    · exact le (h.cl _ _ hk' h2 h1)
    · refine has ((ge es k').b.toNat, (ge es k').b.toNat) ?_
      rw [hto (by omega), if_neg (by omega), if_pos h2]
      simp
  · intro s' c r hc h2 hr h3 h4 h5 h6
    have hc' := sup_edge hs hc
    rcases h5 with h5 | ⟨rfl, h7, rfl⟩
    · rcases h6 with h6 | ⟨h7, h8, rfl⟩
      · exact le (h.rt _ _ _ hc h2 hr h3 h4 h5 h6)
      · refine has (s', (ge es r).b.toNat) ?_
        rw [hto (by omega), if_neg (by omega), if_neg (by omega)]
        have h9 := h.dn _ _ _ h5
        have h10 := ((h.snd _ _ h9).start hs).1
        exact resX_mem.2 ⟨c, hc, h2, by omega, h4.symm, s', by omega, h9, rfl⟩
    · rcases h6 with h6 | ⟨h8, h9, rfl⟩
      · refine has (s', (ge es r).b.toNat) ?_
        rw [hto (by omega), if_neg (by omega), if_pos h2]
        exact List.mem_cons_of_mem _ (retX_mem.2 ⟨r, hr, h3, h4, h.dn _ _ _ h6, rfl⟩)
      · omega
theorem Fi.round {N : Nat} (hN : N = ns.length) {D : Nat → Nat → Nat → Prop} {s n : Nat} : ∀ (j : Nat) {f : Fs}, j ≤ es.length → Fi es m N f D → f.e s n = true → Fi es m N (fround es N s n j f) (fun s' n' k' => D s' n' k' ∨ (s' = s ∧ n' = n ∧ k' < j)) ∧ (fround es N s n j f).e s n = true
  | 0, f, _, h, hn => ⟨⟨h.mn, h.snd, h.q, fun a b c hd => h.dn a b c (by rcases hd with h1 | h1; exact h1; omega), fun a b c d hd => h.fl a b c d (by rcases hd with h1 | h1; exact h1; omega), fun a b c d hd => h.cl a b c d (by rcases hd with h1 | h1; exact h1; omega),
      fun a b c d g1 g2 g3 g4 g5 g6 => h.rt a b c d g1 g2 g3 g4 (by rcases g5 with h1 | h1; exact h1; omega) (by rcases g6 with h1 | h1; exact h1; omega)⟩, hn⟩
  | j + 1, f, hj, h, hn => by
    obtain ⟨h1, h2⟩ := Fi.round hN j (by omega) h hn
    have e : fround es N s n (j + 1) f = fedge es N s n (fround es N s n j f) j := by unfold fround; rw [List.range_succ, List.foldl_append]; rfl
    rw [e]
    have h3 := h1.edge hs hN (k := j) (by omega) h2
    refine ⟨⟨h3.mn, h3.snd, h3.q, fun a b c hd => h3.dn a b c ?_, fun a b c d hd => h3.fl a b c d ?_, fun a b c d hd => h3.cl a b c d ?_, fun a b c d g1 g2 g3 g4 g5 g6 => h3.rt a b c d g1 g2 g3 g4 ?_ ?_⟩, fadds_le _ _ h2⟩
    all_goals (first | (rcases hd with hd | hd) | skip)
    all_goals grind
omit hs in
theorem Fi.done {N : Nat} {f : Fs} (h : Fi es m N f (fun s n _ => f.e s n = true)) (s n : Nat) : f.e s n = true ↔ FR es m s n := by
  refine ⟨h.snd s n, fun hf => ?_⟩
  induction hf with
  | main => exact h.mn
  | flow hk h2 _ ih => exact h.fl _ _ hk h2 ih
  | call hk h2 _ ih => exact h.cl _ _ hk h2 ih
  | ret hc h2 hr h3 h4 _ _ ih1 ih2 => exact h.rt _ _ _ hc h2 hr h3 h4 ih1 ih2
end
end Rc
end Go.Df
