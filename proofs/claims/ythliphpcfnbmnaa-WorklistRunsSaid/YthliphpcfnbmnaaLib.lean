/- Small laws on worlds: blocks that are known whole, and what calls and stores leave of them. No program in sight. -/
import Derived.WalkKit
import Derived.WalkSpells
import Derived.WalkLawsBesides
import Derived.Lib.Hide
import Derived.Handy
import Derived.Deep.RegionHeld3
import Derived.Deep.DrawnRows
import Derived.Deep.DeepCutAuto
namespace Go.Df
open Go.RowKit

/-- Block b of the world holds just these cells, and none of them is frozen. -/
def Blk (W : World) (b : Nat) (C : List Value) : Prop := b < W.heap.size ∧ (∀ i, W.cell? ⟨b, i, none⟩ = C[i]?) ∧ (∀ i, W.frozen? ⟨b, i, none⟩ = false)

theorem Blk.later {W w1 : World} {b : Nat} {C : List Value} (h : Blk W b C) (hb : Below W.heap.size W w1) : Blk w1 b C :=
  ⟨Nat.lt_of_lt_of_le h.1 hb.size, fun i => (hb.cell (p := ⟨b, i, none⟩) h.1).trans (h.2.1 i), fun i => (hb.frozen (p := ⟨b, i, none⟩) h.1).trans (h.2.2 i)⟩

theorem Blk.new (w : World) (C : List Value) (t : TypeId) (b : Nat) (hb : b = w.heap.size) : Blk (w.alloc (.cells C.toArray t)) b C := by
  subst hb
  refine ⟨by simp, fun i => ?_, fun i => World.frozen?_alloc_new w C.toArray t i⟩
  rw [World.cell?_alloc_new]; simp

theorem Blk.alloc {w : World} {b : Nat} {C : List Value} (h : Blk w b C) (o : Obj) : Blk (w.alloc o) b C :=
  h.later ((Below.refl _ _).alloc (Nat.le_refl _) o)

theorem Blk.drew {w : World} {b : Nat} {C : List Value} (h : Blk w b C) : Blk w.drew b C := h

theorem Blk.drewN {w : World} {b : Nat} {C : List Value} (h : Blk w b C) (n : Nat) : Blk (w.drewN n) b C := h

theorem below_step {w W w1 : World} {B : Nat} (hB : B ≤ W.heap.size) (h : Below B w W) (hb : Below W.heap.size W w1) : Below B w w1 := h.trans (hb.mono hB)

theorem bcell {W w1 : World} (hb : Below W.heap.size W w1) : (∀ b o, b < W.heap.size → w1.cell? ⟨b, o, none⟩ = W.cell? ⟨b, o, none⟩) ∧ (∀ b o, b < W.heap.size → w1.frozen? ⟨b, o, none⟩ = W.frozen? ⟨b, o, none⟩) ∧ (∀ b, b < W.heap.size → b < w1.heap.size) :=
  ⟨fun b o h => hb.cell (p := ⟨b, o, none⟩) h, fun b o h => hb.frozen (p := ⟨b, o, none⟩) h, fun _ h => Nat.lt_of_lt_of_le h hb.size⟩

/-- The world is named: from here on what S says is all that is known of it. -/
theorem wp_named {P : Program} {c : Code} {Q : Exit → Act → World → Prop} {a : Act} {w : World} (S : World → Prop) (h0 : S w) (h : ∀ W, S W → c.wp P Q a W) : c.wp P Q a w := h w h0

theorem set_same {w : World} {b i : Nat} {v u : Value} (h : w.cell? ⟨b, i, none⟩ = some u) : (w.setCell ⟨b, i, none⟩ v).cell? ⟨b, i, none⟩ = some v :=
  World.cell?_setCell_same w ⟨b, i, none⟩ v h
theorem set_other {w : World} {b i x j : Nat} {v : Value} (h : b ≠ x ∨ i ≠ j) : (w.setCell ⟨b, i, none⟩ v).cell? ⟨x, j, none⟩ = w.cell? ⟨x, j, none⟩ :=
  World.cell?_setCell_other w ⟨b, i, none⟩ ⟨x, j, none⟩ v (by
    intro e; cases e; rcases h with h | h <;> exact h rfl)
/-- What lies in a cell. -/
def cv (w : World) (b i : Nat) : Value := (w.cell? ⟨b, i, none⟩).getD undef
theorem cv_of {w : World} {b i : Nat} {v : Value} (h : w.cell? ⟨b, i, none⟩ = some v) : w.cell? ⟨b, i, none⟩ = some (cv w b i) := by simp [cv, h]

/-- All blocks of W are as they were, but for those in X. -/
structure Kept (X : List Nat) (W w' : World) : Prop where
  os : w'.os = W.os
  tape : w'.tape = W.tape
  output : w'.output = W.output
  size : W.heap.size ≤ w'.heap.size
  block : ∀ k, k < W.heap.size → k ∉ X → w'.heap[k]? = W.heap[k]?

theorem Kept.refl (X : List Nat) (W : World) : Kept X W W := ⟨rfl, rfl, rfl, Nat.le_refl _, fun _ _ _ => rfl⟩
theorem Kept.drew {X : List Nat} {W w : World} (h : Kept X W w) : Kept X W w.drew := ⟨h.os, h.tape, h.output, h.size, h.block⟩
theorem Kept.drewN {X : List Nat} {W w : World} (h : Kept X W w) (n : Nat) : Kept X W (w.drewN n) := ⟨h.os, h.tape, h.output, h.size, h.block⟩
theorem Kept.call {X : List Nat} {W w w1 : World} (h : Kept X W w) (hb : Below w.heap.size w w1) : Kept X W w1 :=
  ⟨hb.os.trans h.os, hb.tape.trans h.tape, hb.output.trans h.output, Nat.le_trans h.size hb.size, fun k hk hx => (hb.block k (Nat.lt_of_lt_of_le hk h.size)).trans (h.block k hk hx)⟩
theorem Kept.alloc {X : List Nat} {W w : World} (h : Kept X W w) (o : Obj) : Kept X W (w.alloc o) := h.call ((Below.refl _ _).alloc (Nat.le_refl _) o)
theorem Kept.set {X : List Nat} {W w : World} (h : Kept X W w) (b i : Nat) (v : Value) (hb : b ∈ X ∨ W.heap.size ≤ b) : Kept X W (w.setCell ⟨b, i, none⟩ v) := by
  refine ⟨h.os, h.tape, h.output, by simpa [World.setCell] using h.size, fun k hk hx => ?_⟩
  rw [Below.heap_setCell _ _ _ _ (by rintro rfl; rcases hb with hb | hb; exact hx hb; exact absurd hk (Nat.not_lt.2 hb))]
  exact h.block k hk hx
theorem Kept.below {X : List Nat} {w W w' : World} {B : Nat} (h0 : Below B w W) (hB : B ≤ W.heap.size) (hX : ∀ x ∈ X, B ≤ x) (h : Kept X W w') : Below B w w' :=
  ⟨h.os.trans h0.os, h.tape.trans h0.tape, h.output.trans h0.output, Nat.le_trans h0.size h.size, fun k hk => (h.block k (by omega) (fun hx => by have := hX k hx; omega)).trans (h0.block k hk)⟩
theorem Kept.cell {X : List Nat} {W w' : World} (h : Kept X W w') (b o : Nat) (hb : b < W.heap.size) (hx : b ∉ X) : w'.cell? ⟨b, o, none⟩ = W.cell? ⟨b, o, none⟩ :=
  World.cell?_of_block (w := W) (h.block b hb hx)
theorem Kept.frozen {X : List Nat} {W w' : World} (h : Kept X W w') (b o : Nat) (hb : b < W.heap.size) (hx : b ∉ X) : w'.frozen? ⟨b, o, none⟩ = W.frozen? ⟨b, o, none⟩ :=
  World.frozen?_of_block (w := W) (h.block b hb hx)
theorem Kept.rules {W w' : World} (h : Kept [] W w') : (∀ b o, b < W.heap.size → w'.cell? ⟨b, o, none⟩ = W.cell? ⟨b, o, none⟩) ∧ (∀ b o, b < W.heap.size → w'.frozen? ⟨b, o, none⟩ = W.frozen? ⟨b, o, none⟩) ∧ (∀ b, b < W.heap.size → b < w'.heap.size) :=
  ⟨fun b o hb => h.cell b o hb (by simp), fun b o hb => h.frozen b o hb (by simp), fun _ hb => Nat.lt_of_lt_of_le hb h.size⟩
theorem Kept.blk {X : List Nat} {W w' : World} (h : Kept X W w') {b : Nat} {C : List Value} (hx : b ∉ X) (hB : Blk W b C) : Blk w' b C :=
  ⟨Nat.lt_of_lt_of_le hB.1 h.size, fun i => (h.cell b i hB.1 hx).trans (hB.2.1 i), fun i => (h.frozen b i hB.1 hx).trans (hB.2.2 i)⟩

/-- Nothing that was there has turned; in the form in which the walk uses it. -/
abbrev SX0 (W w' : World) : Prop :=
  Kept [] W w' ∧ (∀ b o, b < W.heap.size → w'.cell? ⟨b, o, none⟩ = W.cell? ⟨b, o, none⟩) ∧ (∀ b o, b < W.heap.size → w'.frozen? ⟨b, o, none⟩ = W.frozen? ⟨b, o, none⟩)
/-- Nothing that was there has turned but block x, whose first n cells are there and may be written. -/
abbrev SX1 (W : World) (x n : Nat) (w' : World) : Prop :=
  Kept [x] W w' ∧ (∀ b o, b < W.heap.size → b ≠ x → w'.cell? ⟨b, o, none⟩ = W.cell? ⟨b, o, none⟩) ∧ (∀ b o, b < W.heap.size → b ≠ x → w'.frozen? ⟨b, o, none⟩ = W.frozen? ⟨b, o, none⟩)
    ∧ (∀ i, i < n → w'.cell? ⟨x, i, none⟩ = some (cv w' x i)) ∧ (∀ i, w'.frozen? ⟨x, i, none⟩ = false) ∧ x < w'.heap.size ∧ (∀ i, n ≤ i → w'.cell? ⟨x, i, none⟩ = none)

theorem SX0.of {W w' : World} (h : Kept [] W w') : SX0 W w' := ⟨h, fun b o hb => h.cell b o hb (by simp), fun b o hb => h.frozen b o hb (by simp)⟩
theorem SX0.refl (W : World) : SX0 W W := SX0.of (Kept.refl [] W)
theorem SX0.init (W : World) : SX0 W W.drew := SX0.of (Kept.refl [] W).drew
theorem SX0.call {W w w1 : World} (h : SX0 W w) (hb : Below w.heap.size w w1) : SX0 W w1 := SX0.of (h.1.call hb)
theorem SX0.alloc {W w : World} (h : SX0 W w) (o : Obj) : SX0 W (w.alloc o) := SX0.of (h.1.alloc o)
theorem SX0.set {W w : World} (h : SX0 W w) (b i : Nat) (v : Value) (hb : W.heap.size ≤ b) : SX0 W (w.setCell ⟨b, i, none⟩ v) := SX0.of (h.1.set b i v (.inr hb))
theorem SX0.drew {W w : World} (h : SX0 W w) : SX0 W w.drew := SX0.of h.1.drew
theorem SX0.below {w W w' : World} {B : Nat} (h0 : Below B w W) (hB : B ≤ W.heap.size) (h : SX0 W w') : Below B w w' := h.1.below h0 hB (by simp)

/-- A block behind a store into it. -/
theorem Blk.set {w : World} {b : Nat} {C : List Value} (h : Blk w b C) (i : Nat) (v : Value) : Blk (w.setCell ⟨b, i, none⟩ v) b (C.set i v) := by
  refine ⟨by simpa [World.setCell] using h.1, fun j => ?_, fun j => by simpa using h.2.2 j⟩
  by_cases e : i = j
  · subst e
    by_cases hi : i < C.length
    · rw [set_same ((h.2.1 i).trans (List.getElem?_eq_getElem hi))]; simp [hi]
    · have h0 : w.cell? ⟨b, i, none⟩ = none := (h.2.1 i).trans (List.getElem?_eq_none (by omega))
      have hlt := h.1
      have : (w.setCell ⟨b, i, none⟩ v).cell? ⟨b, i, none⟩ = none := by
        unfold World.cell? at h0 ⊢
        simp only [World.setCell, Array.getElem?_modify] at h0 ⊢
        cases hh : w.heap[b]? with
        | none => simp
        | some o =>
          rw [hh] at h0
          cases o <;> simp_all
      rw [this, List.getElem?_eq_none (by simp; omega)]
  · rw [set_other (.inr e), h.2.1 j, List.getElem?_set_ne e]
theorem Blk.setOther {w : World} {b : Nat} {C : List Value} (h : Blk w b C) (x i : Nat) (v : Value) (hx : x ≠ b) : Blk (w.setCell ⟨x, i, none⟩ v) b C :=
  ⟨by simpa [World.setCell] using h.1, fun j => (set_other (.inl hx)).trans (h.2.1 j), fun j => by simpa using h.2.2 j⟩
theorem SX1.of {W w' : World} {x n : Nat} (h : Kept [x] W w') (hc : ∀ i, i < n → w'.cell? ⟨x, i, none⟩ = some (cv w' x i)) (hf : ∀ i, w'.frozen? ⟨x, i, none⟩ = false) (hl : x < w'.heap.size) (hn : ∀ i, n ≤ i → w'.cell? ⟨x, i, none⟩ = none) : SX1 W x n w' :=
  ⟨h, fun b o hb hx => h.cell b o hb (by simpa using hx), fun b o hb hx => h.frozen b o hb (by simpa using hx), hc, hf, hl, hn⟩
theorem SX1.of_blk {W w' : World} {x : Nat} {C : List Value} (k : Kept [x] W w') (h : Blk w' x C) : SX1 W x C.length w' :=
  SX1.of k (fun i hi => cv_of (v := C[i]) ((h.2.1 i).trans (List.getElem?_eq_getElem hi))) h.2.2 h.1 (fun i hi => (h.2.1 i).trans (List.getElem?_eq_none hi))
theorem SX1.blk {W w' : World} {x n : Nat} (h : SX1 W x n w') : ∃ C : List Value, C.length = n ∧ Blk w' x C := by
  refine ⟨(List.range n).map (cv w' x), by simp, h.2.2.2.2.2.1, fun i => ?_, h.2.2.2.2.1⟩
  by_cases hi : i < n
  · rw [h.2.2.2.1 i hi]; simp [hi]
  · rw [h.2.2.2.2.2.2 i (by omega), List.getElem?_eq_none (by simp; omega)]
theorem SX1.refl {W : World} {x : Nat} {C : List Value} (h : Blk W x C) : SX1 W x C.length W := SX1.of_blk (Kept.refl [x] W) h
theorem SX1.init {W : World} {x : Nat} {C : List Value} (h : Blk W x C) : SX1 W x C.length W.drew := SX1.of_blk (Kept.refl [x] W).drew h.drew
theorem SX1.call {W w w1 : World} {x n : Nat} (h : SX1 W x n w) (hb : Below w.heap.size w w1) : SX1 W x n w1 := by
  obtain ⟨C, rfl, hB⟩ := SX1.blk h
  exact SX1.of_blk (h.1.call hb) (hB.later hb)
theorem SX1.alloc {W w : World} {x n : Nat} (h : SX1 W x n w) (o : Obj) : SX1 W x n (w.alloc o) := SX1.call h ((Below.refl _ _).alloc (Nat.le_refl _) o)
theorem SX1.drew {W w : World} {x n : Nat} (h : SX1 W x n w) : SX1 W x n w.drew := by
  obtain ⟨C, rfl, hB⟩ := SX1.blk h
  exact SX1.of_blk h.1.drew hB.drew
theorem SX1.below {w W w' : World} {x n B : Nat} (h0 : Below B w W) (hB : B ≤ W.heap.size) (hx : B ≤ x) (h : SX1 W x n w') : Below B w w' := h.1.below h0 hB (by simpa using hx)

theorem SX1.set {W w : World} {x n : Nat} (h : SX1 W x n w) (i : Nat) (v : Value) : SX1 W x n (w.setCell ⟨x, i, none⟩ v) := by
  obtain ⟨C, rfl, hB⟩ := SX1.blk h
  have := SX1.of_blk (h.1.set x i v (.inl (by simp))) (hB.set i v)
  simpa only [List.length_set] using this
theorem SX1.setNew {W w : World} {x n : Nat} (h : SX1 W x n w) (b i : Nat) (v : Value) (hb : W.heap.size ≤ b) (hx : b ≠ x) : SX1 W x n (w.setCell ⟨b, i, none⟩ v) := by
  obtain ⟨C, rfl, hB⟩ := SX1.blk h
  exact SX1.of_blk (h.1.set b i v (.inr hb)) (hB.setOther b i v hx)
theorem read_set {w : World} {b i : Nat} {v u : Value} (h : (w.setCell ⟨b, i, none⟩ v).cell? ⟨b, i, none⟩ = some u) : (w.setCell ⟨b, i, none⟩ v).cell? ⟨b, i, none⟩ = some v := by
  unfold World.cell? at h ⊢
  simp only [World.setCell, Array.getElem?_modify] at h ⊢
  cases hh : w.heap[b]? with
  | none => rw [hh] at h; simp at h
  | some o =>
    rw [hh] at h
    cases o with
    | cells c t fr =>
      simp only [Option.map_some, ↓reduceIte, Option.isSome_none, Bool.false_eq_true] at h ⊢
      by_cases hi : i < c.size
      · simp [hi]
      · rw [Array.getElem?_eq_none (by simp; omega)] at h; cases h
    | _ => simp at h
/-- A box of two cells that was stored whole. -/
theorem SX1.two {W w : World} {x : Nat} {v0 v1 : Value} (h : SX1 W x 2 ((w.setCell ⟨x, 0, none⟩ v0).setCell ⟨x, 1, none⟩ v1)) : Blk ((w.setCell ⟨x, 0, none⟩ v0).setCell ⟨x, 1, none⟩ v1) x [v0, v1] := by
  refine ⟨h.2.2.2.2.2.1, fun i => ?_, h.2.2.2.2.1⟩
  match i with
  | 0 => rw [set_other (.inr (by decide))]; exact read_set ((set_other (.inr (by decide))).symm.trans (h.2.2.2.1 0 (by decide)))
  | 1 => exact read_set (h.2.2.2.1 1 (by decide))
  | i + 2 => rw [h.2.2.2.2.2.2 (i + 2) (by omega)]; rfl
theorem SX1.three {W w : World} {x : Nat} {v0 v1 v2 : Value} (h : SX1 W x 3 (((w.setCell ⟨x, 0, none⟩ v0).setCell ⟨x, 1, none⟩ v1).setCell ⟨x, 2, none⟩ v2)) : Blk (((w.setCell ⟨x, 0, none⟩ v0).setCell ⟨x, 1, none⟩ v1).setCell ⟨x, 2, none⟩ v2) x [v0, v1, v2] := by
  refine ⟨h.2.2.2.2.2.1, fun i => ?_, h.2.2.2.2.1⟩
  match i with
  | 0 => rw [set_other (.inr (by decide)), set_other (.inr (by decide))]; exact read_set ((set_other (.inr (by decide))).symm.trans ((set_other (.inr (by decide))).symm.trans (h.2.2.2.1 0 (by decide))))
  | 1 => rw [set_other (.inr (by decide))]; exact read_set ((set_other (.inr (by decide))).symm.trans (h.2.2.2.1 1 (by decide)))
  | 2 => exact read_set (h.2.2.2.1 2 (by decide))
  | i + 3 => rw [h.2.2.2.2.2.2 (i + 3) (by omega)]; rfl
/-- Block b holds n cells, none of them frozen. -/
def BlkN (W : World) (b n : Nat) : Prop := ∃ C : List Value, C.length = n ∧ Blk W b C
theorem Blk.n {W : World} {b n : Nat} {C : List Value} (h : Blk W b C) (hn : C.length = n) : BlkN W b n := ⟨C, hn, h⟩
theorem BlkN.later {W w1 : World} {b n : Nat} (h : BlkN W b n) (hb : Below W.heap.size W w1) : BlkN w1 b n := let ⟨C, hn, h⟩ := h; ⟨C, hn, h.later hb⟩
theorem BlkN.new (w : World) (C : List Value) (t : TypeId) (b n : Nat) (hn : C.length = n) (hb : b = w.heap.size) : BlkN (w.alloc (.cells C.toArray t)) b n := ⟨C, hn, Blk.new w C t b hb⟩
theorem BlkN.alloc {w : World} {b n : Nat} (h : BlkN w b n) (o : Obj) : BlkN (w.alloc o) b n := let ⟨C, hn, h⟩ := h; ⟨C, hn, h.alloc o⟩
theorem BlkN.drew {w : World} {b n : Nat} (h : BlkN w b n) : BlkN w.drew b n := h
theorem BlkN.set {w : World} {b n : Nat} (h : BlkN w b n) (i : Nat) (v : Value) : BlkN (w.setCell ⟨b, i, none⟩ v) b n := let ⟨C, hn, h⟩ := h; ⟨C.set i v, by simpa using hn, h.set i v⟩
theorem Blk.set1 {w : World} {b : Nat} {v0 : Value} (h : BlkN w b 1) : Blk (w.setCell ⟨b, 0, none⟩ v0) b [v0] := by
  match h with
  | ⟨[_], _, h⟩ => exact h.set 0 v0
theorem Blk.set2 {w : World} {b : Nat} {v0 v1 : Value} (h : BlkN w b 2) : Blk ((w.setCell ⟨b, 0, none⟩ v0).setCell ⟨b, 1, none⟩ v1) b [v0, v1] := by
  match h with
  | ⟨[_, _], _, h⟩ => exact (h.set 0 v0).set 1 v1
theorem Blk.set3 {w : World} {b : Nat} {v0 v1 v2 : Value} (h : BlkN w b 3) : Blk (((w.setCell ⟨b, 0, none⟩ v0).setCell ⟨b, 1, none⟩ v1).setCell ⟨b, 2, none⟩ v2) b [v0, v1, v2] := by
  match h with
  | ⟨[_, _, _], _, h⟩ => exact ((h.set 0 v0).set 1 v1).set 2 v2
theorem Blk.set4 {w : World} {b : Nat} {v0 v1 v2 v3 : Value} (h : BlkN w b 4) : Blk ((((w.setCell ⟨b, 0, none⟩ v0).setCell ⟨b, 1, none⟩ v1).setCell ⟨b, 2, none⟩ v2).setCell ⟨b, 3, none⟩ v3) b [v0, v1, v2, v3] := by
  match h with
  | ⟨[_, _, _, _], _, h⟩ => exact (((h.set 0 v0).set 1 v1).set 2 v2).set 3 v3
/-- The world behind a store of a whole box is named. -/
theorem SX1.go2 {F : World → Prop} {W w : World} {x : Nat} {v0 v1 : Value} (h : SX1 W x 2 ((w.setCell ⟨x, 0, none⟩ v0).setCell ⟨x, 1, none⟩ v1)) (k : ∀ Wf, Kept [x] W Wf → Blk Wf x [v0, v1] → F Wf) : F ((w.setCell ⟨x, 0, none⟩ v0).setCell ⟨x, 1, none⟩ v1) := k _ h.1 (SX1.two h)
theorem SX1.go3 {F : World → Prop} {W w : World} {x : Nat} {v0 v1 v2 : Value} (h : SX1 W x 3 (((w.setCell ⟨x, 0, none⟩ v0).setCell ⟨x, 1, none⟩ v1).setCell ⟨x, 2, none⟩ v2)) (k : ∀ Wf, Kept [x] W Wf → Blk Wf x [v0, v1, v2] → F Wf) : F (((w.setCell ⟨x, 0, none⟩ v0).setCell ⟨x, 1, none⟩ v1).setCell ⟨x, 2, none⟩ v2) := k _ h.1 (SX1.three h)
end Go.Df
