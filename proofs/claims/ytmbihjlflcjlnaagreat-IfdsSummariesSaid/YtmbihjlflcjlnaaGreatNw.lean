/- A pack of texts: Na Nb. -/
import Derived.Test.YtmbihjlflcjlnaaGreatZi
import Derived.Test.YtmbihjlflcjlnaaGreatIn
import Derived.Test.YtmbihjlflcjlnaaGreatJb
import Derived.Test.YtmbihjlflcjlnaaGreatSj
import Derived.Test.YtmbihjlflcjlnaaGreatKo
/- Path edges as pairs, in their order. No program in sight. -/
namespace Go.Df
open Go.RowKit
namespace If
open Sp
/-- The order of pairs: by In, then by Out. -/
def lexR (a b : Pr) : Prop := a.i < b.i ∨ (a.i = b.i ∧ a.o < b.o)
theorem lex_irr {a : Pr} : ¬ lexR a a := by unfold lexR; omega
theorem lex_asym {a b : Pr} (h : lexR a b) : ¬ lexR b a := by unfold lexR at h ⊢; omega
/-- Two ascending lists of the same pairs are one. -/
theorem lex_eq : ∀ {a b : List Pr}, a.Pairwise lexR → b.Pairwise lexR → (∀ q, q ∈ a ↔ q ∈ b) → a = b
  | [], [], _, _, _ => rfl
  | [], y :: b, _, _, h => absurd ((h y).2 (by simp)) (by simp)
  | x :: a, [], _, _, h => absurd ((h x).1 (by simp)) (by simp)
  | x :: a, y :: b, ha, hb, h => by
    rw [List.pairwise_cons] at ha hb
    have e : x = y := by
      have h1 := (h x).1 (by simp)
      have h2 := (h y).2 (by simp)
      rcases List.mem_cons.1 h1 with e | h1
      · exact e
      · rcases List.mem_cons.1 h2 with e | h2
        · exact e.symm
        · exact absurd (hb.1 x h1) (lex_asym (ha.1 y h2))
    subst e
    congr 1
    refine lex_eq ha.2 hb.2 fun q => ?_
    constructor
    · intro hq
      rcases List.mem_cons.1 ((h q).1 (List.mem_cons_of_mem _ hq)) with e | h1
      · subst e; exact absurd (ha.1 q hq) lex_irr
      · exact h1
    · intro hq
      rcases List.mem_cons.1 ((h q).2 (List.mem_cons_of_mem _ hq)) with e | h1
      · subst e; exact absurd (hb.1 q hq) lex_irr
      · exact h1
/-- The pairs with In in a list of numbers, and Out in the list that belongs to it. -/
def pairsBy (ks : List Int) (f : Int → List Int) : List Pr := ks.flatMap fun a => (f a).map fun d => ⟨a, d⟩
theorem pairsBy_mem {ks : List Int} {f : Int → List Int} {q : Pr} : q ∈ pairsBy ks f ↔ q.i ∈ ks ∧ q.o ∈ f q.i := by
  unfold pairsBy
  rw [List.mem_flatMap]
  constructor
  · rintro ⟨a, ha, h⟩
    obtain ⟨d, hd, rfl⟩ := List.mem_map.1 h
    exact ⟨ha, hd⟩
  · rintro ⟨h1, h2⟩
    exact ⟨q.i, h1, List.mem_map.2 ⟨q.o, h2, rfl⟩⟩
theorem pairsBy_asc {ks : List Int} {f : Int → List Int} (hk : ks.Pairwise (· < ·)) (hf : ∀ a ∈ ks, (f a).Pairwise (· < ·)) : (pairsBy ks f).Pairwise lexR := by
  unfold pairsBy
  rw [List.pairwise_flatMap]
  constructor
  · intro a ha
    rw [List.pairwise_map]
    exact (hf a ha).imp fun h => .inr ⟨rfl, h⟩
  · refine hk.imp ?_
    intro a b h x hx y hy
    obtain ⟨d, _, rfl⟩ := List.mem_map.1 hx
    obtain ⟨e, _, rfl⟩ := List.mem_map.1 hy
    exact .inl h
theorem take_snocN {α : Type} {l : List α} {i : Nat} {x : α} (h : l[i]? = some x) : l.take (i + 1) = l.take i ++ [x] := by
  rw [List.take_add_one, h]; rfl
theorem pairsBy_snoc {ks : List Int} {f : Int → List Int} {i : Nat} {x : Int} (h : ks[i]? = some x) : pairsBy (ks.take (i + 1)) f = pairsBy (ks.take i) f ++ (f x).map fun d => ⟨x, d⟩ := by
  rw [take_snocN h]
  unfold pairsBy
  rw [List.flatMap_append]
  simp
theorem pairsBy_pre {ks : List Int} {f : Int → List Int} {i : Nat} {x : Int} (h : ks[i]? = some x) : (pairsBy (ks.take i) f).length + (f x).length ≤ (pairsBy ks f).length := by
  have e : pairsBy ks f = pairsBy (ks.take (i + 1)) f ++ pairsBy (ks.drop (i + 1)) f := by
    unfold pairsBy
    rw [← List.flatMap_append, List.take_append_drop]
  rw [e, pairsBy_snoc h]
  simp
open Classical in
/-- The pairs of the path edges at a node, in their order. -/
noncomputable def pairL (p : Pb) (n : Nat) : List Pr := pairsBy (ofNats (List.range p.F.toNat)) fun a => ofNats ((List.range p.F.toNat).filter fun d => decide (PE p a.toNat n d))
theorem ofNats_asc {l : List Nat} (h : l.Pairwise (· < ·)) : (ofNats l).Pairwise (· < ·) := by
  unfold ofNats
  rw [List.pairwise_map]
  exact h.imp fun h => by omega
theorem ofNats_mem {l : List Nat} {y : Int} : y ∈ ofNats l ↔ ∃ d ∈ l, y = (d : Int) := by
  unfold ofNats
  rw [List.mem_map]
  exact ⟨fun ⟨d, h1, h2⟩ => ⟨d, h1, h2.symm⟩, fun ⟨d, h1, h2⟩ => ⟨d, h1, h2.symm⟩⟩
open Classical in
theorem pairL_mem {p : Pb} (ho : Ok p) {n : Nat} {q : Pr} : q ∈ pairL p n ↔ ∃ a d : Nat, q = ⟨a, d⟩ ∧ PE p a n d := by
  unfold pairL
  rw [pairsBy_mem, ofNats_mem, ofNats_mem]
  constructor
  · rintro ⟨⟨a, ha, h1⟩, d, hd, h2⟩
    rw [List.mem_filter] at hd
    refine ⟨a, d, ?_, ?_⟩
    · rw [← h1, ← h2]
    · have h3 := of_decide_eq_true hd.2
      rw [h1, Int.toNat_natCast] at h3
      exact h3
  · rintro ⟨a, d, rfl, h⟩
    have hr := h.rng ho
    refine ⟨⟨a, List.mem_range.2 (by omega), rfl⟩, d, ?_, rfl⟩
    rw [List.mem_filter]
    exact ⟨List.mem_range.2 (by omega), decide_eq_true (by simpa using h)⟩
open Classical in
theorem pairL_asc (p : Pb) (n : Nat) : (pairL p n).Pairwise lexR :=
  pairsBy_asc (ofNats_asc List.pairwise_lt_range) fun _ _ => ofNats_asc (List.pairwise_lt_range.filter _)
open Classical in
/-- The facts at a node for what a key says holds at the start. -/
noncomputable def keyF (p : Pb) (n : Nat) (a : Int) : List Int := if a < 0 then [] else ofNats ((List.range p.F.toNat).filter fun d => decide (PE p a.toNat n d))
open Classical in
theorem keyF_asc (p : Pb) (n : Nat) (a : Int) : (keyF p n a).Pairwise (· < ·) := by
  unfold keyF
  split
  · exact List.Pairwise.nil
  · exact ofNats_asc (List.pairwise_lt_range.filter _)
open Classical in
theorem keyF_mem {p : Pb} (ho : Ok p) {n : Nat} {a y : Int} : y ∈ keyF p n a ↔ ∃ b d : Nat, a = b ∧ y = d ∧ PE p b n d := by
  unfold keyF
  by_cases h : a < 0
  · rw [if_pos h]
    constructor
    · intro h1; simp at h1
    · rintro ⟨b, d, e, -, -⟩; omega
  · rw [if_neg h, ofNats_mem]
    constructor
    · rintro ⟨d, hd, rfl⟩
      rw [List.mem_filter] at hd
      exact ⟨a.toNat, d, by omega, rfl, of_decide_eq_true hd.2⟩
    · rintro ⟨b, d, rfl, rfl, h1⟩
      have hr := h1.rng ho
      refine ⟨d, ?_, rfl⟩
      rw [List.mem_filter]
      exact ⟨List.mem_range.2 (by omega), decide_eq_true (by simpa using h1)⟩
theorem keyF_len {p : Pb} (ho : Ok p) (n : Nat) (a : Int) : (keyF p n a).length ≤ 1024 := by
  classical
  unfold keyF
  split
  · simp
  · have h1 := List.length_filter_le (fun d => decide (PE p a.toNat n d)) (List.range p.F.toNat)
    have h2 := ho.f2
    simp [ofNats] at h1 ⊢
    omega
open Classical in
theorem keyF_bits {p : Pb} (ho : Ok p) {n a : Nat} {l : List Nat} (h : ∀ y, hasB l y = true ↔ PE p a n y) : ofNats (elemsB l (l.length * 64)) = keyF p n (a : Int) := by
  unfold keyF
  rw [if_neg (by omega), Int.toNat_natCast]
  rw [elemsB_eq (F := p.F.toNat) (f := fun d => decide (PE p a n d)) (fun x => by rw [Bool.eq_iff_iff, h x]; simp) (fun x hx => by
    have ha := of_decide_eq_true hx
    have := ha.rng ho
    omega)]
theorem pairL_keyF {p : Pb} (ho : Ok p) {n : Nat} {ks : List Int} (hk : ks.Pairwise (· < ·)) (h2 : ∀ a d : Nat, PE p a n d → (a : Int) ∈ ks) : pairsBy ks (keyF p n) = pairL p n := by
  refine lex_eq (pairsBy_asc hk (fun a _ => keyF_asc p n a)) (pairL_asc p n) fun q => ?_
  rw [pairsBy_mem, pairL_mem ho]
  constructor
  · rintro ⟨h3, h4⟩
    obtain ⟨b, d, e1, e2, h5⟩ := (keyF_mem ho).1 h4
    exact ⟨b, d, by rw [← e1, ← e2], h5⟩
  · rintro ⟨a, d, rfl, h⟩
    exact ⟨h2 a d h, (keyF_mem ho).2 ⟨a, d, rfl, rfl, h⟩⟩
/-- What the reference gathers at a node, behind some In, and some Out of the next one. -/
def tabP (T : Nat → Nat → Nat → Bool) (n a d : Nat) : List Pr := ((List.range d).filter fun (y : Nat) => T n a y).map fun (y : Nat) => ⟨(a : Int), (y : Int)⟩
def tabQ (F : Nat) (T : Nat → Nat → Nat → Bool) (n a : Nat) : List Pr := (List.range a).flatMap fun b => tabP T n b F
theorem tabP_zero (T : Nat → Nat → Nat → Bool) (n a : Nat) : tabP T n a 0 = [] := rfl
theorem tabP_succ (T : Nat → Nat → Nat → Bool) (n a d : Nat) : tabP T n a (d + 1) = tabP T n a d ++ (if T n a d = true then [⟨(a : Int), (d : Int)⟩] else []) := by
  unfold tabP
  rw [List.range_succ, List.filter_append, List.map_append]
  congr 1
  by_cases h : T n a d = true <;> simp [h]
theorem tabP_len (T : Nat → Nat → Nat → Bool) (n a d : Nat) : (tabP T n a d).length ≤ d := by
  unfold tabP
  have := List.length_filter_le (fun d => T n a d) (List.range d)
  simpa using this
theorem tabQ_zero (F : Nat) (T : Nat → Nat → Nat → Bool) (n : Nat) : tabQ F T n 0 = [] := rfl
theorem tabQ_succ (F : Nat) (T : Nat → Nat → Nat → Bool) (n a : Nat) : tabQ F T n (a + 1) = tabQ F T n a ++ tabP T n a F := by
  unfold tabQ
  rw [List.range_succ, List.flatMap_append]
  simp
theorem tabQ_len (F : Nat) (T : Nat → Nat → Nat → Bool) (n : Nat) : ∀ a, (tabQ F T n a).length ≤ a * F
  | 0 => by simp [tabQ]
  | a + 1 => by
    rw [tabQ_succ, List.length_append, Nat.succ_mul]
    have := tabQ_len F T n a
    have := tabP_len T n a F
    omega
theorem tabQ_mem {F : Nat} {T : Nat → Nat → Nat → Bool} {n a : Nat} {q : Pr} : q ∈ tabQ F T n a ↔ ∃ b d : Nat, b < a ∧ d < F ∧ q = ⟨b, d⟩ ∧ T n b d = true := by
  unfold tabQ tabP
  rw [List.mem_flatMap]
  constructor
  · rintro ⟨b, hb, h⟩
    obtain ⟨d, hd, rfl⟩ := List.mem_map.1 h
    rw [List.mem_filter] at hd
    exact ⟨b, d, List.mem_range.1 hb, List.mem_range.1 hd.1, rfl, hd.2⟩
  · rintro ⟨b, d, hb, hd, rfl, h⟩
    exact ⟨b, List.mem_range.2 hb, List.mem_map.2 ⟨d, List.mem_filter.2 ⟨List.mem_range.2 hd, h⟩, rfl⟩⟩
theorem tabQ_asc (F : Nat) (T : Nat → Nat → Nat → Bool) (n a : Nat) : (tabQ F T n a).Pairwise lexR := by
  unfold tabQ
  rw [List.pairwise_flatMap]
  constructor
  · intro b _
    unfold tabP
    rw [List.pairwise_map]
    exact (List.pairwise_lt_range.filter _).imp fun h => .inr ⟨rfl, Int.ofNat_lt.2 h⟩
  · refine List.pairwise_lt_range.imp ?_
    intro b c h x hx y hy
    unfold tabP at hx hy
    obtain ⟨d, _, rfl⟩ := List.mem_map.1 hx
    obtain ⟨e, _, rfl⟩ := List.mem_map.1 hy
    exact .inl (by show (b : Int) < c; omega)
theorem pairL_tab {p : Pb} (ho : Ok p) {F : Nat} (hF : p.F.toNat = F) {T : Nat → Nat → Nat → Bool} (h : ∀ n a d, T n a d = true ↔ PE p a n d) (n : Nat) : tabQ F T n F = pairL p n := by
  refine lex_eq (tabQ_asc F T n F) (pairL_asc p n) fun q => ?_
  rw [tabQ_mem, pairL_mem ho]
  constructor
  · rintro ⟨b, d, _, _, rfl, h1⟩
    exact ⟨b, d, rfl, (h n b d).1 h1⟩
  · rintro ⟨b, d, rfl, h1⟩
    have hr := h1.rng ho
    exact ⟨b, d, by omega, by omega, rfl, (h n b d).2 h1⟩
theorem pairL_len {p : Pb} (ho : Ok p) {F : Nat} (hF : p.F.toNat = F) (n : Nat) : (pairL p n).length ≤ F * F := by
  classical
  rw [← pairL_tab ho hF (T := fun n a d => decide (PE p a n d)) (fun n a d => by simp) n]
  exact tabQ_len F _ n F
end If
end Go.Df
/- Lists of pairs that are gathered, in memory. No program in sight. -/
namespace Go.Df
open Go.RowKit
namespace If
open Sp
/-- A store at a cell leaves the cells that hold other values. -/
theorem set_apartN {w : World} {b o b' o' : Nat} {u u' v : Value} (h : w.cell? ⟨b, o, none⟩ = some u) (h' : w.cell? ⟨b', o', none⟩ = some u') (hn : u ≠ u') : (w.setCell ⟨b, o, none⟩ v).cell? ⟨b', o', none⟩ = some u' := by
  rw [set_other, h']
  by_cases e : b = b'
  · by_cases e2 : o = o'
    · subst e e2
      rw [h] at h'
      exact absurd (Option.some.inj h') hn
    · exact .inr e2
  · exact .inl e
theorem prs_apart {w : World} {b o : Nat} {u v : Value} {A : Option Addr} {n : Nat} {l : List Pr} (h : w.cell? ⟨b, o, none⟩ = some u) (hn : ∀ x, u ≠ .int .i64 x) (hi : Prs w A n l) : Prs (w.setCell ⟨b, o, none⟩ v) A n l :=
  ⟨hi.1, fun h0 => by
    obtain ⟨b', o', e, hl, hc⟩ := hi.2 h0
    exact ⟨b', o', e, by simpa [World.setCell] using hl, fun i hi2 => ⟨set_apartN h (hc i hi2).1 (hn _), set_apartN h (hc i hi2).2 (hn _)⟩⟩⟩
/-- The first i rows of pairs are there, the others are empty. -/
structure PrM (w : World) (g N i : Nat) (f : Nat → List Pr) : Prop where
  l : g < w.heap.size
  c : ∀ x, x < N → ∃ A m c, w.cell? ⟨g, x, none⟩ = some (.slice A m c) ∧ m ≤ c ∧ Prs w A m (if x < i then f x else [])
  fr : ∀ x, w.frozen? ⟨g, x, none⟩ = false
section
variable {w w1 : World} {g N i : Nat} {f : Nat → List Pr}
theorem PrM.kept (h : PrM w g N i f) (hk : Kept [] w w1) : PrM w1 g N i f :=
  ⟨Nat.lt_of_lt_of_le h.l hk.size, fun x hx => by
    obtain ⟨A, m, c, h1, h2, h3⟩ := h.c x hx
    exact ⟨A, m, c, (hk.cell g x h.l (by simp)).trans h1, h2, h3.later hk.toBelow⟩, fun x => (hk.frozen g x h.l (by simp)).trans (h.fr x)⟩
theorem PrM.set (h : PrM w g N i f) (hi : i < N) {A : Option Addr} {m c : Nat} (hA : Prs w A m (f i)) (hm : m ≤ c) : PrM (w.setCell ⟨g, i, none⟩ (.slice A m c)) g N (i + 1) f := by
  obtain ⟨A0, m0, c0, h0, -, -⟩ := h.c i hi
  refine ⟨by simpa [World.setCell] using h.l, fun x hx => ?_, fun x => by simpa using h.fr x⟩
  by_cases e : x = i
  · subst e
    exact ⟨A, m, c, set_same h0, hm, by rw [if_pos (by omega)]; exact prs_apart h0 (by simp) hA⟩
  · obtain ⟨Ax, mx, cx, h1, h2, h3⟩ := h.c x hx
    refine ⟨Ax, mx, cx, by rw [set_other (.inr (fun e2 => e e2.symm))]; exact h1, h2, ?_⟩
    have e9 : (if x < i + 1 then f x else []) = (if x < i then f x else []) := by
      by_cases e2 : x < i
      · rw [if_pos e2, if_pos (by omega)]
      · rw [if_neg e2, if_neg (by omega)]
    rw [e9]
    exact prs_apart h0 (by simp) h3
theorem PrM.flw (h : PrM w g N N f) : Flw w (some ⟨g, 0, none⟩) N ((List.range N).map f) :=
  ⟨by simp, fun _ => ⟨g, 0, rfl, h.l, fun i hi => by
    obtain ⟨A, m, c, h1, h2, h3⟩ := h.c i hi
    rw [if_pos hi] at h3
    refine ⟨A, m, c, by rw [Nat.zero_add]; exact h1, h2, ?_⟩
    have e9 : gf ((List.range N).map f) i = f i := by simp [gf, hi]
    rw [e9]
    exact h3⟩⟩
theorem PrM.start {MR : Array Value} {t : TypeId} (h : w.heap[g]? = some (.cells MR t (0, 0))) (hM : ∀ i, i < N → MR[i]? = some (.slice none 0 0)) : PrM w g N 0 f :=
  ⟨(Array.getElem?_eq_some_iff.1 h).1, fun x hx => ⟨none, 0, 0, by simp [World.cell?, h, hM x hx], Nat.le_refl _, by rw [if_neg (by omega)]; exact ⟨rfl, fun h0 => absurd h0 (by omega)⟩⟩, fun x => by simp [World.frozen?, h]⟩
end
end If
end Go.Df
