/- Texts: Ta Tb Ck. -/
import Derived.Test.YtincpmdldpakkaaGreatDoorRc07
import Derived.Test.YtincpmdldpakkaaGreatDoorRc22
import Derived.Test.YtincpmdldpakkaaGreatDoorRc02
import Derived.Test.YtincpmdldpakkaaGreatDoorRc05
import Derived.Test.YtincpmdldpakkaaGreatDoorRc13
namespace Go.Df
open Go.RowKit
namespace If
def RwP (base : Nat) (ti : TypeId) (R : Nat → Option Addr × Nat × Nat) (L : Nat → List Pr) (n : Nat) (w : World) : Prop :=
 ∀ x, x < n → Prs w (R x).1 (R x).2.1 (L x) ∧ (R x).2.1 ≤ (R x).2.2 ∧ ∀ a, (R x).1 = some a → base ≤ a.block ∧ Tag w a.block ti
theorem prs_keptT {X : List Nat} {w w' : World} {A : Option Addr} {m : Nat} {l : List Pr} (h : Prs w A m l) (hk : Kept X w w') (hA : ∀ a, A = some a → a.block ∉ X) : Prs w' A m l :=
 ⟨h.1, fun hn => by
  obtain ⟨b, o, e, hl, hc⟩ := h.2 hn
  exact ⟨b, o, e, Nat.lt_of_lt_of_le hl hk.size, fun i hi => ⟨(hk.cell b _ hl (hA _ e)).trans (hc i hi).1, (hk.cell b _ hl (hA _ e)).trans (hc i hi).2⟩⟩⟩
theorem RwP.kept {base : Nat} {ti : TypeId} {R : Nat → Option Addr × Nat × Nat} {L : Nat → List Pr} {n : Nat} {X : List Nat} {w w' : World} (h : RwP base ti R L n w) (hk : Kept X w w') (hX : ∀ b, Tag w b ti → base ≤ b → b ∉ X) : RwP base ti R L n w' := fun x hx => by
 obtain ⟨h1, h2, h3⟩ := h x hx
 exact ⟨prs_keptT h1 hk (fun a ha => hX _ (h3 a ha).2 (h3 a ha).1), h2, fun a ha => ⟨(h3 a ha).1, (h3 a ha).2.same (hk.block _ (h3 a ha).2.lt (hX _ (h3 a ha).2 (h3 a ha).1))⟩⟩
def updP (f : Nat → Option Addr × Nat × Nat) (n : Nat) (x : Option Addr × Nat × Nat) : Nat → Option Addr × Nat × Nat := fun i => if i = n then x else f i
theorem RwP.snoc {base : Nat} {ti : TypeId} {R : Nat → Option Addr × Nat × Nat} {L : Nat → List Pr} {n : Nat} {w : World} (h : RwP base ti R L n w) {A : Option Addr} {m c : Nat} (hA : Prs w A m (L n)) (hm : m ≤ c) (ha : ∀ a, A = some a → base ≤ a.block ∧ Tag w a.block ti) : RwP base ti (updP R n (A, m, c)) L (n + 1) w := fun x hx => by
 unfold updP
 by_cases e : x = n
 ·subst e; rw [if_pos rfl]; exact ⟨hA, hm, ha⟩
 ·rw [if_neg e]; exact h x (by omega)
def rowsP (R : Nat → Option Addr × Nat × Nat) (n : Nat) : List Value := (List.range n).map fun x => Value.slice (R x).1 (R x).2.1 (R x).2.2
theorem RwP.flw {base : Nat} {ti e : TypeId} {R : Nat → Option Addr × Nat × Nat} {ls : List (List Pr)} {n c : Nat} {A : Option Addr} {w : World} (h : RwP base ti R (gf ls) n w) (ho : w.ownsRow base e 1 (.slice A n c) n (rowsP R n)) (hl : ls.length = n) : Flw w A n ls ∧ n ≤ c := by
 by_cases h0 : 0 < n
 ·obtain ⟨g, c', hv, hb, hg, hc, -, hcell, -⟩ := own_cellsT ho h0
  injection hv with e1 e2 e3
  subst e1
  subst e3
  refine ⟨⟨hl, fun _ => ⟨g, 0, rfl, hg, fun i hi => ?_⟩⟩, hc⟩
  obtain ⟨h1, h2, -⟩ := h i hi
  refine ⟨(R i).1, (R i).2.1, (R i).2.2, ?_, h2, h1⟩
  rw [Nat.zero_add, hcell _ (by omega)]
  simp [rowsP, hi]
 ·exact ⟨⟨hl, fun h => absurd h h0⟩, by omega⟩
def sdcells (l : List Sd) : List Value := l.flatMap fun x => [.int .i64 x.n, .int .i64 x.f]
theorem sdcells_snoc (l : List Sd) (x : Sd) : sdcells l ++ [.int .i64 x.n, .int .i64 x.f] = sdcells (l ++ [x]) := by simp [sdcells]
theorem sdcells_at : ∀ (l : List Sd) {i : Nat} (_ : i < l.length), (sdcells l)[i * 2]? = some (.int .i64 (gd l i).n) ∧ (sdcells l)[i * 2 + 1]? = some (.int .i64 (gd l i).f)
 | x :: l, 0, _ => by simp [sdcells, gd]
 | x :: l, i + 1, h => by
  have h1 := sdcells_at l (i := i) (by simpa using h)
  have e : sdcells (x :: l) = [.int .i64 x.n, .int .i64 x.f] ++ sdcells l := rfl
  have e2 : gd (x :: l) (i + 1) = gd l i := by simp [gd]
  rw [e, e2]
  refine ⟨?_, ?_⟩
  ·rw [List.getElem?_append_right (by simp; omega), show (i + 1) * 2 - [Value.int .i64 x.n, .int .i64 x.f].length = i * 2 by simp; omega]; exact h1.1
  ·rw [List.getElem?_append_right (by simp; omega), show (i + 1) * 2 + 1 - [Value.int .i64 x.n, .int .i64 x.f].length = i * 2 + 1 by simp; omega]; exact h1.2
theorem Sds.own {w : World} {base : Nat} {e : TypeId} {A : Option Addr} {n c : Nat} {l : List Sd} (h : w.ownsRow base e 2 (.slice A n c) n (sdcells l)) (hl : l.length = n) : Sds w A n l ∧ n ≤ c := by
 by_cases h0 : 0 < n
 ·obtain ⟨g, c', hv, hb, hg, hc, -, hcell, -⟩ := own_cellsT h h0
  injection hv with e1 e2 e3
  subst e1
  subst e3
  exact ⟨⟨hl, fun _ => ⟨g, 0, rfl, hg, fun i hi => by
   obtain ⟨h1, h2⟩ := sdcells_at l (i := i) (by omega)
   rw [Nat.zero_add, hcell _ (by omega), hcell _ (by omega)]
   exact ⟨h1, h2⟩⟩⟩, hc⟩
 ·exact ⟨⟨hl, fun h => absurd h h0⟩, by omega⟩
theorem take_gd (l : List Sd) {j : Nat} (h : j < l.length) : l.take (j + 1) = l.take j ++ [gd l j] := by
 rw [gd_lt h, List.take_succ_eq_append_getElem h]
def Pw (w : World) (g f : Nat) (v : Nat → Pr) : Prop := g < w.heap.size ∧ (∀ a, a < f → w.cell? ⟨g, a * 2, none⟩ = some (.int .i64 (v a).i) ∧ w.cell? ⟨g, a * 2 + 1, none⟩ = some (.int .i64 (v a).o)) ∧ ∀ i, w.frozen? ⟨g, i, none⟩ = false
theorem Pw.kept {w w' : World} {g f : Nat} {v : Nat → Pr} {X : List Nat} (h : Pw w g f v) (hk : Kept X w w') (hg : g ∉ X) : Pw w' g f v :=
 ⟨Nat.lt_of_lt_of_le h.1 hk.size, fun a ha => ⟨(hk.cell g _ h.1 hg).trans (h.2.1 a ha).1, (hk.cell g _ h.1 hg).trans (h.2.1 a ha).2⟩, fun i => (hk.frozen g i h.1 hg).trans (h.2.2 i)⟩
theorem Pw.put {w : World} {g f : Nat} {v : Nat → Pr} (h : Pw w g f v) {d : Nat} (hd : d < f) (x y : Int) {i : Nat} (hi : i = d * 2) :
  Pw ((w.setCell ⟨g, i, none⟩ (.int .i64 x)).setCell ⟨g, i + 1, none⟩ (.int .i64 y)) g f (fun a => if a = d then ⟨x, y⟩ else v a) := by
 subst hi
 have hc := h.2.1 d hd
 refine ⟨by simpa [World.setCell] using h.1, fun a ha => ?_, fun i => by simpa using h.2.2 i⟩
 by_cases e : a = d
 ·subst e
  dsimp only
  rw [if_pos rfl]
  have s1 := set_same (v := .int .i64 x) hc.1
  have c2 : (w.setCell ⟨g, a * 2, none⟩ (.int .i64 x)).cell? ⟨g, a * 2 + 1, none⟩ = some (.int .i64 (v a).o) := (set_other (.inr (by omega))).trans hc.2
  have s2 := set_same (v := .int .i64 y) c2
  exact ⟨by rw [set_other (.inr (by omega))]; exact s1, s2⟩
 ·dsimp only
  rw [if_neg e]
  have key : ∀ (w : World) (v : Value) (x z : Nat), x < 2 → z < 2 → (w.setCell ⟨g, d * 2 + x, none⟩ v).cell? ⟨g, a * 2 + z, none⟩ = w.cell? ⟨g, a * 2 + z, none⟩ := fun w v x z hx hz => set_other (.inr (by omega))
  have hca := h.2.1 a ha
  exact ⟨((key _ (.int .i64 y) 1 0 (by omega) (by omega)).trans (key w (.int .i64 x) 0 0 (by omega) (by omega))).trans hca.1,
   ((key _ (.int .i64 y) 1 1 (by omega) (by omega)).trans (key w (.int .i64 x) 0 1 (by omega) (by omega))).trans hca.2⟩
theorem Pw.made {w : World} {g f : Nat} {M : Array Value} {t : TypeId} (h : w.heap[g]? = some (.cells M t (0, 0))) (hM : (List.replicate (f * 2) (Value.int .i64 0)).toArray = M) : Pw w g f (fun _ => ⟨0, 0⟩) := by
 refine ⟨(Array.getElem?_eq_some_iff.1 h).1, fun a ha => ⟨?_, ?_⟩, fun i => by simp [World.frozen?, h]⟩
 ·have h9 := rep_at (v := Value.int .i64 0) (n := f * 2) (i := a * 2) (by omega)
  rw [hM] at h9
  simpa [World.cell?, h] using h9
 ·have h9 := rep_at (v := Value.int .i64 0) (n := f * 2) (i := a * 2 + 1) (by omega)
  rw [hM] at h9
  simpa [World.cell?, h] using h9
theorem Pw.same {w : World} {g f : Nat} {v v' : Nat → Pr} (h : Pw w g f v) (he : ∀ a, a < f → v a = v' a) : Pw w g f v' :=
 ⟨h.1, fun a ha => by rw [← he a ha]; exact h.2.1 a ha, h.2.2⟩
theorem Pw.prs {w : World} {g : Nat} {l : List Pr} (h : Pw w g l.length (gp l)) : Prs w (some ⟨g, 0, none⟩) l.length l :=
 ⟨rfl, fun _ => ⟨g, 0, rfl, h.1, fun i hi => by rw [Nat.zero_add]; exact h.2.1 i hi⟩⟩
def upTo (l : List Pr) (j : Nat) : Nat → Pr := fun a => if a < j then gp l a else ⟨0, 0⟩
theorem upTo_all (l : List Pr) {a : Nat} (h : a < l.length) : upTo l l.length a = gp l a := if_pos h
theorem upTo_succ (l : List Pr) (j a : Nat) : (if a = j then gp l j else upTo l j a) = upTo l (j + 1) a := by
 unfold upTo
 by_cases h1 : a = j
 ·subst h1; rw [if_pos rfl, if_pos (by omega)]
 ·rw [if_neg h1]
  by_cases h2 : a < j
  ·rw [if_pos h2, if_pos (by omega)]
  ·rw [if_neg h2, if_neg (by omega)]
structure Fo (L : List (List Pr)) (N i base : Nat) (w : World) (go : Nat) (rw : Nat → Nat) : Prop where
 glt : go < w.heap.size
 gb : go < base
 gfr : ∀ x, w.frozen? ⟨go, x, none⟩ = false
 row : ∀ n, n < i → w.cell? ⟨go, n, none⟩ = some (.slice (some ⟨rw n, 0, none⟩) (gf L n).length (gf L n).length)
 nil : ∀ n, i ≤ n → n < N → w.cell? ⟨go, n, none⟩ = some (.slice none 0 0)
 r : ∀ n, n < i → Pw w (rw n) (gf L n).length (gp (gf L n))
 rb : ∀ n, n < i → base ≤ rw n
section
variable {L : List (List Pr)} {N i base : Nat} {w w' : World} {go : Nat} {rw : Nat → Nat}
theorem Fo.kept {X : List Nat} (h : Fo L N i base w go rw) (hk : Kept X w w') (hg : go ∉ X) (hX : ∀ n, n < i → rw n ∉ X) : Fo L N i base w' go rw :=
 ⟨Nat.lt_of_lt_of_le h.glt hk.size, h.gb, fun x => (hk.frozen go x h.glt hg).trans (h.gfr x), fun n hn => (hk.cell go n h.glt hg).trans (h.row n hn), fun n h1 h2 => (hk.cell go n h.glt hg).trans (h.nil n h1 h2), fun n hn => (h.r n hn).kept hk (hX n hn), h.rb⟩
theorem Fo.over {u : World} {X : List Nat} (h : Fo L N i base u go rw) (hk : Kept X u w') (hX : ∀ x ∈ X, u.heap.size ≤ x) : Fo L N i base w' go rw :=
 h.kept hk (fun hm => by have := hX go hm; have := h.glt; omega) (fun n hn hm => by have := hX _ hm; have := (h.r n hn).1; omega)
theorem Fo.snoc (h : Fo L N i base w go rw) (hi : i < N) {g m : Nat} (hg : base ≤ g) (hm : (gf L i).length = m) (hr : Pw w g m (gp (gf L i))) :
  Fo L N (i + 1) base (w.setCell ⟨go, i, none⟩ (.slice (some ⟨g, 0, none⟩) m m)) go (updN rw i g) := by
 subst hm
 have hgb := h.gb
 have hk : Kept [go] w (w.setCell ⟨go, i, none⟩ (.slice (some ⟨g, 0, none⟩) (gf L i).length (gf L i).length)) := (Kept.refl [go] w).set go i _ (.inl (by simp))
 have e1 : ∀ n, n < i → updN rw i g n = rw n := fun n hn => by unfold updN; rw [if_neg (by omega)]
 have e2 : updN rw i g i = g := by unfold updN; rw [if_pos rfl]
 refine ⟨by simpa [World.setCell] using h.glt, hgb, fun x => by simpa using h.gfr x, fun n hn => ?_, fun n h1 h2 => ?_, fun n hn => ?_, fun n hn => ?_⟩
 ·by_cases e : n = i
  ·subst e
   rw [e2]
   exact set_same (h.nil n (Nat.le_refl _) hi)
  ·rw [e1 n (by omega), set_other (.inr (by simpa using fun e' => e e'.symm))]
   exact h.row n (by omega)
 ·rw [set_other (.inr (by simp; omega))]
  exact h.nil n (by omega) h2
 ·by_cases e : n = i
  ·subst e
   rw [e2]
   exact hr.kept hk (by simp; omega)
  ·rw [e1 n (by omega)]
   exact (h.r n (by omega)).kept hk (by have := h.rb n (by omega); simp; omega)
 ·by_cases e : n = i
  ·subst e
   rw [e2]
   exact hg
  ·rw [e1 n (by omega)]
   exact h.rb n (by omega)
theorem Fo.flw (h : Fo L N N base w go rw) (hl : L.length = N) : Flw w (some ⟨go, 0, none⟩) N L :=
 ⟨hl, fun _ => ⟨go, 0, rfl, h.glt, fun i hi => ⟨some ⟨rw i, 0, none⟩, (gf L i).length, (gf L i).length, by rw [Nat.zero_add]; exact h.row i hi, Nat.le_refl _, (h.r i hi).prs⟩⟩⟩
end
end If
end Go.Df
namespace Go.Df
open Go.RowKit
theorem flat_len9 {α : Type} (f : α → List Value) (k : Nat) (hk : ∀ x, (f x).length = k) : ∀ l : List α, (l.flatMap f).length = l.length * k
 | [] => by simp
 | x :: l => by rw [List.flatMap_cons, List.length_append, hk, flat_len9 f k hk l, List.length_cons, Nat.succ_mul]; omega
theorem flat_at9 {α : Type} (f : α → List Value) (k : Nat) (hk : ∀ x, (f x).length = k) : ∀ (l : List α) {i q : Nat} (hi : i < l.length) (_ : q < k), (l.flatMap f)[i * k + q]? = (f l[i])[q]?
 | x :: l, 0, q, _, hq => by
  rw [List.flatMap_cons, Nat.zero_mul, Nat.zero_add, List.getElem?_append_left (by rw [hk]; exact hq)]; rfl
 | x :: l, i + 1, q, hi, hq => by
  have h1 := flat_at9 f k hk l (i := i) (q := q) (by simpa using hi) hq
  rw [List.flatMap_cons, List.getElem?_append_right (by rw [hk, Nat.succ_mul]; omega), hk, show (i + 1) * k + q - k = i * k + q by rw [Nat.succ_mul]; omega, h1]
  rfl
def ndc (x : Sp.Nd) : List Value := [.int .i64 x.f, .int .i64 x.k, .int .i64 x.i]
def edc (x : Sp.Ed) : List Value := [.int .i64 x.a, .int .i64 x.b, .int .i64 x.k, .int .i64 x.c]
theorem Nds.rd {w : World} {A : Option Addr} {n : Nat} {ns : List Sp.Nd} (h : Nds w A n ns) : Rd w 3 A n (ns.flatMap ndc) := by
 refine ⟨by rw [flat_len9 ndc 3 (fun _ => rfl), h.1], fun hn => ?_⟩
 obtain ⟨b, o, e, hl, hc⟩ := h.2 hn
 refine ⟨b, o, e, hl, fun j hj => ?_⟩
 obtain ⟨i, q, rfl, hq⟩ : ∃ i q, j = i * 3 + q ∧ q < 3 := ⟨j / 3, j % 3, by omega, by omega⟩
 have hi : i < n := by omega
 have hi' : i < ns.length := by rw [h.1]; exact hi
 have h9 := hc i hi
 rw [flat_at9 ndc 3 (fun _ => rfl) ns hi' hq]
 rw [gn_lt hi'] at h9
 match q, hq with
 | 0, _ => exact h9.1
 | 1, _ => exact h9.2.1
 | 2, _ => exact h9.2.2
theorem Nds.own {w : World} {base : Nat} {e : TypeId} {A : Option Addr} {n c : Nat} {l : List Sp.Nd} (h : w.ownsRow base e 3 (.slice A n c) n (l.flatMap ndc)) (hl : l.length = n) : Nds w A n l := by
 refine ⟨hl, fun h0 => ?_⟩
 obtain ⟨g, c', hv, hb, hg, hc, -, hcell, -⟩ := own_cellsT h h0
 injection hv with e1 e2 e3
 subst e1
 refine ⟨g, 0, rfl, hg, fun i hi => ?_⟩
 have hi' : i < l.length := by omega
 have k : ∀ q, q < 3 → w.cell? ⟨g, i * 3 + q, none⟩ = (ndc l[i])[q]? := fun q hq => (hcell _ (by omega)).trans (flat_at9 ndc 3 (fun _ => rfl) l hi' hq)
 rw [gn_lt hi', Nat.zero_add]
 exact ⟨k 0 (by omega), k 1 (by omega), k 2 (by omega)⟩
theorem Eds.rd {w : World} {A : Option Addr} {n : Nat} {es : List Sp.Ed} (h : Eds w A n es) : Rd w 4 A n (es.flatMap edc) := by
 refine ⟨by rw [flat_len9 edc 4 (fun _ => rfl), h.1], fun hn => ?_⟩
 obtain ⟨b, o, e, hl, hc⟩ := h.2 hn
 refine ⟨b, o, e, hl, fun j hj => ?_⟩
 obtain ⟨i, q, rfl, hq⟩ : ∃ i q, j = i * 4 + q ∧ q < 4 := ⟨j / 4, j % 4, by omega, by omega⟩
 have hi : i < n := by omega
 have hi' : i < es.length := by rw [h.1]; exact hi
 have h9 := hc i hi
 rw [flat_at9 edc 4 (fun _ => rfl) es hi' hq]
 rw [ge_lt hi'] at h9
 match q, hq with
 | 0, _ => exact h9.1
 | 1, _ => exact h9.2.1
 | 2, _ => exact h9.2.2.1
 | 3, _ => exact h9.2.2.2
theorem Eds.own {w : World} {base : Nat} {e : TypeId} {A : Option Addr} {n c : Nat} {l : List Sp.Ed} (h : w.ownsRow base e 4 (.slice A n c) n (l.flatMap edc)) (hl : l.length = n) : Eds w A n l := by
 refine ⟨hl, fun h0 => ?_⟩
 obtain ⟨g, c', hv, hb, hg, hc, -, hcell, -⟩ := own_cellsT h h0
 injection hv with e1 e2 e3
 subst e1
 refine ⟨g, 0, rfl, hg, fun i hi => ?_⟩
 have hi' : i < l.length := by omega
 have k : ∀ q, q < 4 → w.cell? ⟨g, i * 4 + q, none⟩ = (edc l[i])[q]? := fun q hq => (hcell _ (by omega)).trans (flat_at9 edc 4 (fun _ => rfl) l hi' hq)
 rw [ge_lt hi', Nat.zero_add]
 exact ⟨k 0 (by omega), k 1 (by omega), k 2 (by omega), k 3 (by omega)⟩
theorem flat_one {α : Type} (f : α → List Value) (hf : ∀ x, ∀ u ∈ f x, u.oneCell' = true) (l : List α) : ∀ u ∈ l.flatMap f, u.oneCell' = true := fun u hu => by
 obtain ⟨x, _, h⟩ := List.mem_flatMap.1 hu
 exact hf x u h
theorem Nds.keptX {X : List Nat} {w w' : World} {A : Option Addr} {n : Nat} {ns : List Sp.Nd} (h : Nds w A n ns) (hk : Kept X w w') (hA : ∀ a, A = some a → a.block ∉ X) : Nds w' A n ns :=
 ⟨h.1, fun hn => by
  obtain ⟨b, o, e, hl, hc⟩ := h.2 hn
  have hx := hA _ e
  exact ⟨b, o, e, Nat.lt_of_lt_of_le hl hk.size, fun i hi => ⟨(hk.cell b _ hl hx).trans (hc i hi).1, (hk.cell b _ hl hx).trans (hc i hi).2.1, (hk.cell b _ hl hx).trans (hc i hi).2.2⟩⟩⟩
theorem Eds.keptX {X : List Nat} {w w' : World} {A : Option Addr} {n : Nat} {es : List Sp.Ed} (h : Eds w A n es) (hk : Kept X w w') (hA : ∀ a, A = some a → a.block ∉ X) : Eds w' A n es :=
 ⟨h.1, fun hn => by
  obtain ⟨b, o, e, hl, hc⟩ := h.2 hn
  have hx := hA _ e
  exact ⟨b, o, e, Nat.lt_of_lt_of_le hl hk.size, fun i hi => ⟨(hk.cell b _ hl hx).trans (hc i hi).1, (hk.cell b _ hl hx).trans (hc i hi).2.1, (hk.cell b _ hl hx).trans (hc i hi).2.2.1, (hk.cell b _ hl hx).trans (hc i hi).2.2.2⟩⟩⟩
end Go.Df
namespace Go.Proofs.YtincpmdldpakkaaGreatDoor
open Go.RowKit Go.Df
attribute [local go_sem ↓] Go.wp_at_zero Go.wp_at_succ
theorem node_info9 : (Tryz.prog.info? 120).map (fun i => (i.zero, i.size, i.bytes)) = some (some (.agg #[.int .i64 0, .int .i64 0, .int .i64 0]), 3, 24) := by kernel_rfl
theorem edge_info9 : (Tryz.prog.info? 43).map (fun i => (i.zero, i.size, i.bytes)) = some (some (.agg #[.int .i64 0, .int .i64 0, .int .i64 0, .int .i64 0]), 4, 32) := by kernel_rfl
set_option maxRecDepth 100000 in
set_option maxHeartbeats 4000000 in
theorem cloneN_any (A : Option Addr) (n c : Nat) (ns : List Sp.Nd) (w : World) (h : Nds w A n ns) (hn : n ≤ 1000000) :
   Calls Tryz.prog 46 #[.slice A n c] w fun e w' => ∃ A' c', e = .returned (.slice A' n c') ∧ Nds w' A' n ns ∧ (∀ a, A' = some a → w.heap.size ≤ a.block) ∧ Below w.heap.size w w' := by
 obtain ⟨i0, hi, hz0, hz1, hz2⟩ := info_parts node_info9
 have HL : Hid (ns.length = n) := h.1
 have HR := Lib.hid h.rd
 have hA : A = none → n = 0 := fun e => by
   by_cases h0 : 0 < n
   · obtain ⟨b, o, e2, -⟩ := h.2 h0
     rw [e] at e2
     cases e2
   · omega
 have q22 : ∀ (w : World) (a : Option Addr) (n c n' c' : Nat), (binOp .eql 22 (.slice a n c) (.slice none n' c')).run Tryz.prog w = .ok (.bool a.isNone) w := fun w a n c n' c' => Lib.run_eql_slice_nil w _ _ a n c n' c' Tryz.underlying22
 clear h
 go_enter Tryz.func46, Tryz.ntmps46
 cases A with
 | none =>
   obtain rfl := hA rfl
   go_wp2_with fail
   go_ret
   exact ⟨none, ⟨0, rfl⟩, ⟨HL.out, fun h => absurd h (by omega)⟩, (fun _ h => by cases h), Below.refl _ _⟩
 | some a =>
   go_wp2_with (at_builtin; refine wpList_append_rd _ rfl _ _ 22 rfl w.heap.size 120 i0 (.agg #[.int .i64 0, .int .i64 0, .int .i64 0]) 3 24 Tryz.underlying22 hi hz0 hz1 hz2 rfl (by decide) (.slice (some ⟨w.heap.size, 0, none⟩) 0 0) 0 [] rfl (World.ownsRow_made w #[] 0 (Nat.le_refl _) (Nat.zero_le _) rfl) (some a) n c (ns.flatMap ndc) rfl (HR.out.alloc _) (fun h => by cases h) (flat_one ndc (by intro x u hu; simp [ndc] at hu; rcases hu with rfl | rfl | rfl <;> rfl) ns) n (Nat.zero_add n) _ (List.nil_append _) (by unfold maxLen; omega) (by omega) (by simp) ?_; intro A' c' w1 hown hk hat)
   go_ret
   refine ⟨A', c', rfl, Nds.own hown HL.out, fun a ha => (own_addr hown ha).1, ?_⟩
   exact (kept_fresh ((Kept.refl [] w).alloc _) hk (by intro y hy; simp [Value.ownBlock] at hy; omega)).toBelow
set_option maxRecDepth 100000 in
set_option maxHeartbeats 4000000 in
theorem cloneE_any (A : Option Addr) (n c : Nat) (es : List Sp.Ed) (w : World) (h : Eds w A n es) (hn : n ≤ 1000000) :
   Calls Tryz.prog 47 #[.slice A n c] w fun e w' => ∃ A' c', e = .returned (.slice A' n c') ∧ Eds w' A' n es ∧ (∀ a, A' = some a → w.heap.size ≤ a.block) ∧ Below w.heap.size w w' := by
 obtain ⟨i0, hi, hz0, hz1, hz2⟩ := info_parts edge_info9
 have HL : Hid (es.length = n) := h.1
 have HR := Lib.hid h.rd
 have hA : A = none → n = 0 := fun e => by
   by_cases h0 : 0 < n
   · obtain ⟨b, o, e2, -⟩ := h.2 h0
     rw [e] at e2
     cases e2
   · omega
 have q22 : ∀ (w : World) (a : Option Addr) (n c n' c' : Nat), (binOp .eql 23 (.slice a n c) (.slice none n' c')).run Tryz.prog w = .ok (.bool a.isNone) w := fun w a n c n' c' => Lib.run_eql_slice_nil w _ _ a n c n' c' Tryz.underlying23
 clear h
 go_enter Tryz.func47, Tryz.ntmps47
 cases A with
 | none =>
   obtain rfl := hA rfl
   go_wp2_with fail
   go_ret
   exact ⟨none, ⟨0, rfl⟩, ⟨HL.out, fun h => absurd h (by omega)⟩, (fun _ h => by cases h), Below.refl _ _⟩
 | some a =>
   go_wp2_with (at_builtin; refine wpList_append_rd _ rfl _ _ 23 rfl w.heap.size 43 i0 (.agg #[.int .i64 0, .int .i64 0, .int .i64 0, .int .i64 0]) 4 32 Tryz.underlying23 hi hz0 hz1 hz2 rfl (by decide) (.slice (some ⟨w.heap.size, 0, none⟩) 0 0) 0 [] rfl (World.ownsRow_made w #[] 0 (Nat.le_refl _) (Nat.zero_le _) rfl) (some a) n c (es.flatMap edc) rfl (HR.out.alloc _) (fun h => by cases h) (flat_one edc (by intro x u hu; simp [edc] at hu; rcases hu with rfl | rfl | rfl | rfl <;> rfl) es) n (Nat.zero_add n) _ (List.nil_append _) (by unfold maxLen; omega) (by omega) (by simp) ?_; intro A' c' w1 hown hk hat)
   go_ret
   refine ⟨A', c', rfl, Eds.own hown HL.out, fun a ha => (own_addr hown ha).1, ?_⟩
   exact (kept_fresh ((Kept.refl [] w).alloc _) hk (by intro y hy; simp [Value.ownBlock] at hy; omega)).toBelow
end Go.Proofs.YtincpmdldpakkaaGreatDoor
namespace Go.Df
open Go.RowKit
def IntA (w : World) (g n : Nat) (f : Nat → Nat) : Prop := g < w.heap.size ∧ (∀ x, x < n → w.cell? ⟨g, x, none⟩ = some (.int .i64 (f x : Nat))) ∧ ∀ x, w.frozen? ⟨g, x, none⟩ = false
theorem IntA.kept {X : List Nat} {w w' : World} {g n : Nat} {f : Nat → Nat} (h : IntA w g n f) (hk : Kept X w w') (hX : g ∉ X) : IntA w' g n f :=
 ⟨Nat.lt_of_lt_of_le h.1 hk.size, fun x hx => (hk.cell g x h.1 hX).trans (h.2.1 x hx), fun x => (hk.frozen g x h.1 hX).trans (h.2.2 x)⟩
theorem IntA.set {w : World} {g n : Nat} {f : Nat → Nat} (h : IntA w g n f) (i y : Nat) {f' : Nat → Nat} (hf : ∀ x, x < n → f' x = if x = i then y else f x) : IntA (w.setCell ⟨g, i, none⟩ (.int .i64 (y : Nat))) g n f' := by
 refine ⟨by simpa [World.setCell] using h.1, fun x hx => ?_, fun x => by simpa using h.2.2 x⟩
 rw [hf x hx]
 by_cases e : x = i
 ·subst e; rw [if_pos rfl]; exact set_same (h.2.1 x hx)
 ·rw [if_neg e, set_other (.inr (fun h => e h.symm))]; exact h.2.1 x hx
open Classical in
noncomputable def upd2 {α : Type} (f : Nat → Nat → α) (t i : Nat) (x : α) : Nat → Nat → α := fun t' i' => if t' = t ∧ i' = i then x else f t' i'
theorem upd2_at {α : Type} (f : Nat → Nat → α) (t i : Nat) (x : α) : upd2 f t i x t i = x := by simp [upd2]
theorem upd2_ne {α : Type} {f : Nat → Nat → α} {t i t' i' : Nat} {x : α} (h : ¬ (t' = t ∧ i' = i)) : upd2 f t i x t' i' = f t' i' := by simp [upd2, h]
def rsel5 (a b c d e : Nat) (t : Nat) : Nat := match t with
 | 0 => a
 | 1 => b
 | 2 => c
 | 3 => d
 | _ => e
section
structure Rg (e : Nat → TypeId) (sz : Nat → Nat) (lim : Nat) (w : World) (r : Nat → Nat) (N : Nat) (v : Nat → Nat → Value) (n : Nat → Nat → Nat) (l : Nat → Nat → List Value) : Prop where
 cell : ∀ t i, t < 5 → i < N → w.cell? ⟨r t, i, none⟩ = some (v t i)
 fr : ∀ t i, t < 5 → w.frozen? ⟨r t, i, none⟩ = false
 rlt : ∀ t, t < 5 → r t < lim
 hlim : lim ≤ w.heap.size
 rr : ∀ t t', t < 5 → t' < 5 → r t = r t' → t = t'
 own : ∀ t i, t < 5 → i < N → w.ownsRow lim (e t) (sz t) (v t i) (n t i) (l t i)
 vv : ∀ t i t' i' x, t < 5 → t' < 5 → i < N → i' < N → (v t i).ownBlock = some x → (v t' i').ownBlock = some x → t = t' ∧ i = i'
variable {e : Nat → TypeId} {sz : Nat → Nat} {lim : Nat} {w w1 : World} {r : Nat → Nat} {N : Nat} {v : Nat → Nat → Value} {n : Nat → Nat → Nat} {l : Nat → Nat → List Value}
theorem Rg.kept {X : List Nat} (h : Rg e sz lim w r N v n l) (hk : Kept X w w1) (hX : ∀ x ∈ X, x < lim ∧ ∀ t, t < 5 → x ≠ r t) : Rg e sz lim w1 r N v n l := by
 have hr : ∀ t, t < 5 → r t ∉ X := fun t ht hm => (hX _ hm).2 t ht rfl
 have hrl : ∀ t, t < 5 → r t < w.heap.size := fun t ht => Nat.lt_of_lt_of_le (h.rlt t ht) h.hlim
 exact ⟨fun t i ht hi => (hk.cell (r t) i (hrl t ht) (hr t ht)).trans (h.cell t i ht hi), fun t i ht => (hk.frozen (r t) i (hrl t ht) (hr t ht)).trans (h.fr t i ht), h.rlt, Nat.le_trans h.hlim hk.size, h.rr,
  fun t i ht hi => own_kept2 (h.own t i ht hi) hk (fun g hg hm => by have h1 := own_ge (h.own t i ht hi) hg; have h2 := (hX g hm).1; omega), h.vv⟩
theorem Rg.snoc {t i : Nat} {v' : Value} {n' : Nat} {l' : List Value} (h : Rg e sz lim w r N v n l) (ht : t < 5) (hi : i < N) (hk : Kept (v t i).ownBlock.toList w w1) (hv : w1.ownsRow lim (e t) (sz t) v' n' l')
  (hg : ∀ g, v'.ownBlock = some g → (v t i).ownBlock = some g ∨ w.heap.size ≤ g) : Rg e sz lim (w1.setCell ⟨r t, i, none⟩ v') r N (upd2 v t i v') (upd2 n t i n') (upd2 l t i l') := by
 have hrl : ∀ t, t < 5 → r t < w.heap.size := fun t ht => Nat.lt_of_lt_of_le (h.rlt t ht) h.hlim
 have hvr : ∀ t' i' g, t' < 5 → i' < N → (v t' i').ownBlock = some g → ∀ t'', t'' < 5 → g ≠ r t'' := fun t' i' g ht' hi' hg' t'' ht'' e => by
  have h1 := own_ge (h.own t' i' ht' hi') hg'
  have h2 := h.rlt t'' ht''
  omega
 have hrn : ∀ t', t' < 5 → r t' ∉ (v t i).ownBlock.toList := fun t' ht' hm => hvr t i _ ht hi (by simpa using hm) t' ht' rfl
 have hk2 : Kept (r t :: (v t i).ownBlock.toList) w (w1.setCell ⟨r t, i, none⟩ v') := (keptWide hk (fun x hx => List.mem_cons_of_mem _ hx)).set (r t) i v' (.inl (by simp))
 have hv'r : ∀ g, v'.ownBlock = some g → g ≠ r t := fun g hg' => by
  rcases hg g hg' with h1 | h1
  ·exact hvr t i g ht hi h1 t ht
  ·have := hrl t ht; omega
 refine ⟨fun t' i' ht' hi' => ?_, fun t' i' ht' => ?_, h.rlt, Nat.le_trans h.hlim (by simpa [World.setCell] using hk.size), h.rr, fun t' i' ht' hi' => ?_, fun t1 i1 t2 i2 x h1 h2 h3 h4 h5 h6 => ?_⟩
 ·have hc := (hk.cell (r t') i' (hrl t' ht') (hrn t' ht')).trans (h.cell t' i' ht' hi')
  by_cases e1 : t' = t ∧ i' = i
  ·obtain ⟨rfl, rfl⟩ := e1
   rw [upd2_at]
   exact set_same hc
  ·rw [upd2_ne e1, set_other]
   ·exact hc
   ·by_cases e2 : t' = t
    ·right; intro e3; exact e1 ⟨e2, e3.symm⟩
    ·left; intro e3; exact e2 (h.rr t' t ht' ht e3.symm)
 ·have := (hk.frozen (r t') i' (hrl t' ht') (hrn t' ht')).trans (h.fr t' i' ht')
  simpa using this
 ·by_cases e1 : t' = t ∧ i' = i
  ·obtain ⟨rfl, rfl⟩ := e1
   rw [upd2_at, upd2_at, upd2_at]
   exact own_kept2 hv ((Kept.refl [r t'] w1).set (r t') i' v' (.inl (by simp))) (fun g hg' => by simpa using hv'r g hg')
  ·rw [upd2_ne e1, upd2_ne e1, upd2_ne e1]
   refine own_kept2 (h.own t' i' ht' hi') hk2 (fun g hg' hm => ?_)
   rcases List.mem_cons.1 hm with h1 | h1
   ·exact hvr t' i' g ht' hi' hg' t ht h1
   ·exact e1 (h.vv t' i' t i g ht' ht hi' hi hg' (by simpa using h1))
 ·by_cases e1 : t1 = t ∧ i1 = i
  ·obtain ⟨rfl, rfl⟩ := e1
   rw [upd2_at] at h5
   by_cases e2 : t2 = t1 ∧ i2 = i1
   ·exact ⟨e2.1.symm, e2.2.symm⟩
   ·rw [upd2_ne e2] at h6
    rcases hg x h5 with h7 | h7
    ·exact h.vv t1 i1 t2 i2 x h1 h2 h3 h4 h7 h6
    ·have := own_lt2 (h.own t2 i2 h2 h4) h6; omega
  ·rw [upd2_ne e1] at h5
   by_cases e2 : t2 = t ∧ i2 = i
   ·obtain ⟨rfl, rfl⟩ := e2
    rw [upd2_at] at h6
    rcases hg x h6 with h7 | h7
    ·exact h.vv t1 i1 t2 i2 x h1 h2 h3 h4 h5 h7
    ·have := own_lt2 (h.own t1 i1 h1 h3) h5; omega
   ·rw [upd2_ne e2] at h6
    exact h.vv t1 i1 t2 i2 x h1 h2 h3 h4 h5 h6
end
theorem blk_of_obj {w : World} {g : Nat} {C : List Value} {t : TypeId} (h : w.heap[g]? = some (.cells C.toArray t (0, 0))) : Blk w g C :=
 ⟨(Array.getElem?_eq_some_iff.1 h).1, fun i => by simp [World.cell?, h], fun i => by simp [World.frozen?, h]⟩
namespace Iv
open Sp
def prE (p : Vb) (t i k : Nat) : Bool :=
 match t with
 | 0 => (ge p.es k).a == (i : Int)
 | 1 => (ge p.es k).k == 2 && (ge p.es k).b == (i : Int)
 | 2 => (ge p.es k).k == 2 && If.stOf p.ns (ge p.es k).a.toNat == i
 | 3 => ((ge p.es k).k == 3 || (ge p.es k).k == 4) && (ge p.es k).c == (i : Int)
 | _ => false
def LE (p : Vb) (k t i : Nat) : List Nat := (List.range k).filter (prE p t i)
def SE (p : Vb) (j i : Nat) : List Vs := (p.sd.take j).filter fun s => s.n == (i : Int)
theorem LE_one (p : Vb) (k t i : Nat) : LE p (k + 1) t i = if prE p t i k = true then LE p k t i ++ [k] else LE p k t i := filter_one k
theorem upd2_app {L : Nat → Nat → List Nat} {t i t' i' k : Nat} : upd2 L t i (L t i ++ [k]) t' i' = if t' = t ∧ i' = i then L t' i' ++ [k] else L t' i' := by
 by_cases e : t' = t ∧ i' = i
 ·rw [if_pos e]; obtain ⟨rfl, rfl⟩ := e; rw [upd2_at]
 ·rw [if_neg e, upd2_ne e]
theorem beq_int (x i : Nat) : ((x : Int) == (i : Int)) = decide (i = x) := by
 by_cases e : i = x
 ·subst e; simp
 ·have : ¬ ((x : Int) = (i : Int)) := by omega
  simp [e, this]
theorem beq_nat (x i : Nat) : (x == i) = decide (i = x) := by
 by_cases e : i = x
 ·subst e; simp
 ·have : ¬ (x = i) := fun h => e h.symm
  simp [e, this]
theorem LE_call {p : Vb} {k ea eb st : Nat} (h2 : (ge p.es k).k = 2) (ha : (ge p.es k).a = (ea : Int)) (hb : (ge p.es k).b = (eb : Int)) (hs : If.stOf p.ns ea = st) {L1 L2 L3 : Nat → Nat → List Nat} (e1 : L1 = upd2 (LE p k) 0 ea (LE p k 0 ea ++ [k])) (e2 : L2 = upd2 L1 1 eb (L1 1 eb ++ [k])) (e3 : L3 = upd2 L2 2 st (L2 2 st ++ [k])) : LE p (k + 1) = L3 := by
 funext t i
 rw [LE_one, e3, upd2_app, e2, upd2_app, e1, upd2_app]
 match t with
 | 0 => simp [prE, ha, beq_int]
 | 1 => simp [prE, h2, hb, beq_int]
 | 2 => simp [prE, h2, ha, hs, beq_nat]
 | 3 => simp [prE, h2]
 | _ + 4 => simp [prE]
theorem LE_ret {p : Vb} {k ea ec : Nat} (h2 : (ge p.es k).k = 3 ∨ (ge p.es k).k = 4) (ha : (ge p.es k).a = (ea : Int)) (hc : (ge p.es k).c = (ec : Int)) {L1 L2 : Nat → Nat → List Nat} (e1 : L1 = upd2 (LE p k) 0 ea (LE p k 0 ea ++ [k])) (e2 : L2 = upd2 L1 3 ec (L1 3 ec ++ [k])) : LE p (k + 1) = L2 := by
 have h3 : (ge p.es k).k ≠ 2 := by omega
 funext t i
 rw [LE_one, e2, upd2_app, e1, upd2_app]
 match t with
 | 0 => simp [prE, ha, beq_int]
 | 1 => simp [prE, h3]
 | 2 => simp [prE, h3]
 | 3 => simp [prE, h2, hc, beq_int]
 | _ + 4 => simp [prE]
theorem LE_else {p : Vb} {k ea : Nat} (h2 : (ge p.es k).k ≠ 2) (h3 : (ge p.es k).k ≠ 3) (h4 : (ge p.es k).k ≠ 4) (ha : (ge p.es k).a = (ea : Int)) {L1 : Nat → Nat → List Nat} (e1 : L1 = upd2 (LE p k) 0 ea (LE p k 0 ea ++ [k])) : LE p (k + 1) = L1 := by
 funext t i
 rw [LE_one, e1, upd2_app]
 match t with
 | 0 => simp [prE, ha, beq_int]
 | 1 => simp [prE, h2]
 | 2 => simp [prE, h2]
 | 3 => simp [prE, h3, h4]
 | _ + 4 => simp [prE]
theorem LE_len (p : Vb) (k t i : Nat) : (LE p k t i).length ≤ k := by
 have h := List.length_filter_le (prE p t i) (List.range k)
 rw [List.length_range] at h
 exact h
def vcells (l : List Vs) : List Value := l.flatMap fun u => [.int .i64 u.n, .int .i64 u.f, .int .i64 u.k, .int .i64 u.v]
theorem vcells_snoc (l : List Vs) (u : Vs) : vcells (l ++ [u]) = vcells l ++ [.int .i64 u.n, .int .i64 u.f, .int .i64 u.k, .int .i64 u.v] := by simp [vcells]
def NKf (L : Nat → Nat → List Nat) (S : Nat → List Vs) (t i : Nat) : Nat := if t = 4 then (S i).length else (L t i).length
def CKf (L : Nat → Nat → List Nat) (S : Nat → List Vs) (t i : Nat) : List Value := if t = 4 then vcells (S i) else (ofNats (L t i)).map (Value.int .i64)
theorem NK_up {L : Nat → Nat → List Nat} {S : Nat → List Vs} {t i k : Nat} (ht : t < 4) : NKf (upd2 L t i (L t i ++ [k])) S = upd2 (NKf L S) t i ((L t i).length + 1) := by
 funext t' i'
 by_cases e : t' = t ∧ i' = i
 ·obtain ⟨rfl, rfl⟩ := e
  rw [upd2_at]
  unfold NKf
  rw [if_neg (by omega), upd2_at, List.length_append]
  rfl
 ·rw [upd2_ne e]
  unfold NKf
  rw [upd2_ne e]
theorem CK_up {L : Nat → Nat → List Nat} {S : Nat → List Vs} {t i k : Nat} (ht : t < 4) : CKf (upd2 L t i (L t i ++ [k])) S = upd2 (CKf L S) t i (CKf L S t i ++ [.int .i64 (k : Nat)]) := by
 funext t' i'
 by_cases e : t' = t ∧ i' = i
 ·obtain ⟨rfl, rfl⟩ := e
  rw [upd2_at]
  unfold CKf
  rw [if_neg (by omega), if_neg (by omega), upd2_at, ofNats_snoc, List.map_append]
  rfl
 ·rw [upd2_ne e]
  unfold CKf
  rw [upd2_ne e]
end Iv
end Go.Df
