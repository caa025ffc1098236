/- Texts: La Sp Sa Sb Sc. -/
import Derived.WalkKit
import Derived.WalkSpells
import Derived.WalkLawsBesides
import Derived.Lib.Hide
import Derived.Handy
import Derived.Deep.RegionHeld3
import Derived.Deep.DrawnRows
import Derived.Deep.DeepCutAuto
import Derived.Deep.CutBlock
import Derived.BigQuiet
import Derived.Deep.QuietTactic
import Derived.RegionTactic
import Derived.Deep.AppendLies
import Derived.Test.YtooejoajojanjaaGreatDoorRows
namespace Go.Df
open Go.RowKit
def Blk (W : World) (b : Nat) (C : List Value) : Prop := b < W.heap.size ∧ (∀ i, W.cell? ⟨b, i, none⟩ = C[i]?) ∧ (∀ i, W.frozen? ⟨b, i, none⟩ = false)
theorem Blk.later {W w1 : World} {b : Nat} {C : List Value} (h : Blk W b C) (hb : Below W.heap.size W w1) : Blk w1 b C :=
 ⟨Nat.lt_of_lt_of_le h.1 hb.size, fun i => (hb.cell (p := ⟨b, i, none⟩) h.1).trans (h.2.1 i), fun i => (hb.frozen (p := ⟨b, i, none⟩) h.1).trans (h.2.2 i)⟩
theorem Blk.new (w : World) (C : List Value) (t : TypeId) (b : Nat) (hb : b = w.heap.size) : Blk (w.alloc (.cells C.toArray t)) b C := by
 subst hb
 refine ⟨by simp, fun i => ?_, fun i => World.frozen?_alloc_new w C.toArray t i⟩
 rw [World.cell?_alloc_new]; simp
theorem Blk.alloc {w : World} {b : Nat} {C : List Value} (h : Blk w b C) (o : Obj) : Blk (w.alloc o) b C :=
 h.later ((Below.refl _ _).alloc (Nat.le_refl _) o)
theorem Blk.drew {w : World} {b : Nat} {C : List Value} (h : Blk w b C) : Blk w.drew b C := h
theorem Blk.drewN {w : World} {b : Nat} {C : List Value} (h : Blk w b C) (n : Nat) : Blk (w.drewN n) b C := h
theorem below_step {w W w1 : World} {B : Nat} (hB : B ≤ W.heap.size) (h : Below B w W) (hb : Below W.heap.size W w1) : Below B w w1 := h.trans (hb.mono hB)
theorem bcell {W w1 : World} (hb : Below W.heap.size W w1) : (∀ b o, b < W.heap.size → w1.cell? ⟨b, o, none⟩ = W.cell? ⟨b, o, none⟩) ∧ (∀ b o, b < W.heap.size → w1.frozen? ⟨b, o, none⟩ = W.frozen? ⟨b, o, none⟩) ∧ (∀ b, b < W.heap.size → b < w1.heap.size) :=
 ⟨fun b o h => hb.cell (p := ⟨b, o, none⟩) h, fun b o h => hb.frozen (p := ⟨b, o, none⟩) h, fun _ h => Nat.lt_of_lt_of_le h hb.size⟩
theorem wp_named {P : Program} {c : Code} {Q : Exit → Act → World → Prop} {a : Act} {w : World} (S : World → Prop) (h0 : S w) (h : ∀ W, S W → c.wp P Q a W) : c.wp P Q a w := h w h0
theorem set_same {w : World} {b i : Nat} {v u : Value} (h : w.cell? ⟨b, i, none⟩ = some u) : (w.setCell ⟨b, i, none⟩ v).cell? ⟨b, i, none⟩ = some v :=
 World.cell?_setCell_same w ⟨b, i, none⟩ v h
theorem set_other {w : World} {b i x j : Nat} {v : Value} (h : b ≠ x ∨ i ≠ j) : (w.setCell ⟨b, i, none⟩ v).cell? ⟨x, j, none⟩ = w.cell? ⟨x, j, none⟩ :=
 World.cell?_setCell_other w ⟨b, i, none⟩ ⟨x, j, none⟩ v (by
   intro e; cases e; rcases h with h | h <;> exact h rfl)
def cv (w : World) (b i : Nat) : Value := (w.cell? ⟨b, i, none⟩).getD undef
theorem cv_of {w : World} {b i : Nat} {v : Value} (h : w.cell? ⟨b, i, none⟩ = some v) : w.cell? ⟨b, i, none⟩ = some (cv w b i) := by simp [cv, h]
structure Kept (X : List Nat) (W w' : World) : Prop where
 os : w'.os = W.os
 tape : w'.tape = W.tape
 output : w'.output = W.output
 size : W.heap.size ≤ w'.heap.size
 block : ∀ k, k < W.heap.size → k ∉ X → w'.heap[k]? = W.heap[k]?
theorem Kept.refl (X : List Nat) (W : World) : Kept X W W := ⟨rfl, rfl, rfl, Nat.le_refl _, fun _ _ _ => rfl⟩
theorem Kept.drew {X : List Nat} {W w : World} (h : Kept X W w) : Kept X W w.drew := ⟨h.os, h.tape, h.output, h.size, h.block⟩
theorem Kept.drewN {X : List Nat} {W w : World} (h : Kept X W w) (n : Nat) : Kept X W (w.drewN n) := ⟨h.os, h.tape, h.output, h.size, h.block⟩
theorem Kept.call {X : List Nat} {W w w1 : World} (h : Kept X W w) (hb : Below w.heap.size w w1) : Kept X W w1 :=
 ⟨hb.os.trans h.os, hb.tape.trans h.tape, hb.output.trans h.output, Nat.le_trans h.size hb.size, fun k hk hx => (hb.block k (Nat.lt_of_lt_of_le hk h.size)).trans (h.block k hk hx)⟩
theorem Kept.alloc {X : List Nat} {W w : World} (h : Kept X W w) (o : Obj) : Kept X W (w.alloc o) := h.call ((Below.refl _ _).alloc (Nat.le_refl _) o)
theorem Kept.set {X : List Nat} {W w : World} (h : Kept X W w) (b i : Nat) (v : Value) (hb : b ∈ X ∨ W.heap.size ≤ b) : Kept X W (w.setCell ⟨b, i, none⟩ v) := by
 refine ⟨h.os, h.tape, h.output, by simpa [World.setCell] using h.size, fun k hk hx => ?_⟩
 rw [Below.heap_setCell _ _ _ _ (by rintro rfl; rcases hb with hb | hb; exact hx hb; exact absurd hk (Nat.not_lt.2 hb))]
 exact h.block k hk hx
theorem Kept.below {X : List Nat} {w W w' : World} {B : Nat} (h0 : Below B w W) (hB : B ≤ W.heap.size) (hX : ∀ x ∈ X, B ≤ x) (h : Kept X W w') : Below B w w' :=
 ⟨h.os.trans h0.os, h.tape.trans h0.tape, h.output.trans h0.output, Nat.le_trans h0.size h.size, fun k hk => (h.block k (by omega) (fun hx => by have := hX k hx; omega)).trans (h0.block k hk)⟩
theorem Kept.cell {X : List Nat} {W w' : World} (h : Kept X W w') (b o : Nat) (hb : b < W.heap.size) (hx : b ∉ X) : w'.cell? ⟨b, o, none⟩ = W.cell? ⟨b, o, none⟩ :=
 World.cell?_of_block (w := W) (h.block b hb hx)
theorem Kept.frozen {X : List Nat} {W w' : World} (h : Kept X W w') (b o : Nat) (hb : b < W.heap.size) (hx : b ∉ X) : w'.frozen? ⟨b, o, none⟩ = W.frozen? ⟨b, o, none⟩ :=
 World.frozen?_of_block (w := W) (h.block b hb hx)
theorem Kept.rules {W w' : World} (h : Kept [] W w') : (∀ b o, b < W.heap.size → w'.cell? ⟨b, o, none⟩ = W.cell? ⟨b, o, none⟩) ∧ (∀ b o, b < W.heap.size → w'.frozen? ⟨b, o, none⟩ = W.frozen? ⟨b, o, none⟩) ∧ (∀ b, b < W.heap.size → b < w'.heap.size) :=
 ⟨fun b o hb => h.cell b o hb (by simp), fun b o hb => h.frozen b o hb (by simp), fun _ hb => Nat.lt_of_lt_of_le hb h.size⟩
theorem Kept.blk {X : List Nat} {W w' : World} (h : Kept X W w') {b : Nat} {C : List Value} (hx : b ∉ X) (hB : Blk W b C) : Blk w' b C :=
 ⟨Nat.lt_of_lt_of_le hB.1 h.size, fun i => (h.cell b i hB.1 hx).trans (hB.2.1 i), fun i => (h.frozen b i hB.1 hx).trans (hB.2.2 i)⟩
abbrev SX0 (W w' : World) : Prop :=
 Kept [] W w' ∧ (∀ b o, b < W.heap.size → w'.cell? ⟨b, o, none⟩ = W.cell? ⟨b, o, none⟩) ∧ (∀ b o, b < W.heap.size → w'.frozen? ⟨b, o, none⟩ = W.frozen? ⟨b, o, none⟩)
abbrev SX1 (W : World) (x n : Nat) (w' : World) : Prop :=
 Kept [x] W w' ∧ (∀ b o, b < W.heap.size → b ≠ x → w'.cell? ⟨b, o, none⟩ = W.cell? ⟨b, o, none⟩) ∧ (∀ b o, b < W.heap.size → b ≠ x → w'.frozen? ⟨b, o, none⟩ = W.frozen? ⟨b, o, none⟩)
   ∧ (∀ i, i < n → w'.cell? ⟨x, i, none⟩ = some (cv w' x i)) ∧ (∀ i, w'.frozen? ⟨x, i, none⟩ = false) ∧ x < w'.heap.size ∧ (∀ i, n ≤ i → w'.cell? ⟨x, i, none⟩ = none)
theorem SX0.of {W w' : World} (h : Kept [] W w') : SX0 W w' := ⟨h, fun b o hb => h.cell b o hb (by simp), fun b o hb => h.frozen b o hb (by simp)⟩
theorem SX0.refl (W : World) : SX0 W W := SX0.of (Kept.refl [] W)
theorem SX0.init (W : World) : SX0 W W.drew := SX0.of (Kept.refl [] W).drew
theorem SX0.call {W w w1 : World} (h : SX0 W w) (hb : Below w.heap.size w w1) : SX0 W w1 := SX0.of (h.1.call hb)
theorem SX0.alloc {W w : World} (h : SX0 W w) (o : Obj) : SX0 W (w.alloc o) := SX0.of (h.1.alloc o)
theorem SX0.set {W w : World} (h : SX0 W w) (b i : Nat) (v : Value) (hb : W.heap.size ≤ b) : SX0 W (w.setCell ⟨b, i, none⟩ v) := SX0.of (h.1.set b i v (.inr hb))
theorem SX0.drew {W w : World} (h : SX0 W w) : SX0 W w.drew := SX0.of h.1.drew
theorem SX0.below {w W w' : World} {B : Nat} (h0 : Below B w W) (hB : B ≤ W.heap.size) (h : SX0 W w') : Below B w w' := h.1.below h0 hB (by simp)
theorem Blk.set {w : World} {b : Nat} {C : List Value} (h : Blk w b C) (i : Nat) (v : Value) : Blk (w.setCell ⟨b, i, none⟩ v) b (C.set i v) := by
 refine ⟨by simpa [World.setCell] using h.1, fun j => ?_, fun j => by simpa using h.2.2 j⟩
 by_cases e : i = j
 · subst e
   by_cases hi : i < C.length
   · rw [set_same ((h.2.1 i).trans (List.getElem?_eq_getElem hi))]; simp [hi]
   · have h0 : w.cell? ⟨b, i, none⟩ = none := (h.2.1 i).trans (List.getElem?_eq_none (by omega))
     have hlt := h.1
     have : (w.setCell ⟨b, i, none⟩ v).cell? ⟨b, i, none⟩ = none := by
       unfold World.cell? at h0 ⊢
       simp only [World.setCell, Array.getElem?_modify] at h0 ⊢
       cases hh : w.heap[b]? with
       | none => simp
       | some o =>
         rw [hh] at h0
         cases o <;> simp_all
     rw [this, List.getElem?_eq_none (by simp; omega)]
 · rw [set_other (.inr e), h.2.1 j, List.getElem?_set_ne e]
theorem Blk.setOther {w : World} {b : Nat} {C : List Value} (h : Blk w b C) (x i : Nat) (v : Value) (hx : x ≠ b) : Blk (w.setCell ⟨x, i, none⟩ v) b C :=
 ⟨by simpa [World.setCell] using h.1, fun j => (set_other (.inl hx)).trans (h.2.1 j), fun j => by simpa using h.2.2 j⟩
theorem SX1.of {W w' : World} {x n : Nat} (h : Kept [x] W w') (hc : ∀ i, i < n → w'.cell? ⟨x, i, none⟩ = some (cv w' x i)) (hf : ∀ i, w'.frozen? ⟨x, i, none⟩ = false) (hl : x < w'.heap.size) (hn : ∀ i, n ≤ i → w'.cell? ⟨x, i, none⟩ = none) : SX1 W x n w' :=
 ⟨h, fun b o hb hx => h.cell b o hb (by simpa using hx), fun b o hb hx => h.frozen b o hb (by simpa using hx), hc, hf, hl, hn⟩
theorem SX1.of_blk {W w' : World} {x : Nat} {C : List Value} (k : Kept [x] W w') (h : Blk w' x C) : SX1 W x C.length w' :=
 SX1.of k (fun i hi => cv_of (v := C[i]) ((h.2.1 i).trans (List.getElem?_eq_getElem hi))) h.2.2 h.1 (fun i hi => (h.2.1 i).trans (List.getElem?_eq_none hi))
theorem SX1.blk {W w' : World} {x n : Nat} (h : SX1 W x n w') : ∃ C : List Value, C.length = n ∧ Blk w' x C := by
 refine ⟨(List.range n).map (cv w' x), by simp, h.2.2.2.2.2.1, fun i => ?_, h.2.2.2.2.1⟩
 by_cases hi : i < n
 · rw [h.2.2.2.1 i hi]; simp [hi]
 · rw [h.2.2.2.2.2.2 i (by omega), List.getElem?_eq_none (by simp; omega)]
theorem SX1.refl {W : World} {x : Nat} {C : List Value} (h : Blk W x C) : SX1 W x C.length W := SX1.of_blk (Kept.refl [x] W) h
theorem SX1.init {W : World} {x : Nat} {C : List Value} (h : Blk W x C) : SX1 W x C.length W.drew := SX1.of_blk (Kept.refl [x] W).drew h.drew
theorem SX1.call {W w w1 : World} {x n : Nat} (h : SX1 W x n w) (hb : Below w.heap.size w w1) : SX1 W x n w1 := by
 obtain ⟨C, rfl, hB⟩ := SX1.blk h
 exact SX1.of_blk (h.1.call hb) (hB.later hb)
theorem SX1.alloc {W w : World} {x n : Nat} (h : SX1 W x n w) (o : Obj) : SX1 W x n (w.alloc o) := SX1.call h ((Below.refl _ _).alloc (Nat.le_refl _) o)
theorem SX1.drew {W w : World} {x n : Nat} (h : SX1 W x n w) : SX1 W x n w.drew := by
 obtain ⟨C, rfl, hB⟩ := SX1.blk h
 exact SX1.of_blk h.1.drew hB.drew
theorem SX1.below {w W w' : World} {x n B : Nat} (h0 : Below B w W) (hB : B ≤ W.heap.size) (hx : B ≤ x) (h : SX1 W x n w') : Below B w w' := h.1.below h0 hB (by simpa using hx)
theorem SX1.set {W w : World} {x n : Nat} (h : SX1 W x n w) (i : Nat) (v : Value) : SX1 W x n (w.setCell ⟨x, i, none⟩ v) := by
 obtain ⟨C, rfl, hB⟩ := SX1.blk h
 have := SX1.of_blk (h.1.set x i v (.inl (by simp))) (hB.set i v)
 simpa only [List.length_set] using this
theorem read_set {w : World} {b i : Nat} {v u : Value} (h : (w.setCell ⟨b, i, none⟩ v).cell? ⟨b, i, none⟩ = some u) : (w.setCell ⟨b, i, none⟩ v).cell? ⟨b, i, none⟩ = some v := by
 unfold World.cell? at h ⊢
 simp only [World.setCell, Array.getElem?_modify] at h ⊢
 cases hh : w.heap[b]? with
 | none => rw [hh] at h; simp at h
 | some o =>
   rw [hh] at h
   cases o with
   | cells c t fr =>
     simp only [Option.map_some, ↓reduceIte, Option.isSome_none, Bool.false_eq_true] at h ⊢
     by_cases hi : i < c.size
     · simp [hi]
     · rw [Array.getElem?_eq_none (by simp; omega)] at h; cases h
   | _ => simp at h
theorem SX1.two {W w : World} {x : Nat} {v0 v1 : Value} (h : SX1 W x 2 ((w.setCell ⟨x, 0, none⟩ v0).setCell ⟨x, 1, none⟩ v1)) : Blk ((w.setCell ⟨x, 0, none⟩ v0).setCell ⟨x, 1, none⟩ v1) x [v0, v1] := by
 refine ⟨h.2.2.2.2.2.1, fun i => ?_, h.2.2.2.2.1⟩
 match i with
 | 0 => rw [set_other (.inr (by decide))]; exact read_set ((set_other (.inr (by decide))).symm.trans (h.2.2.2.1 0 (by decide)))
 | 1 => exact read_set (h.2.2.2.1 1 (by decide))
 | i + 2 => rw [h.2.2.2.2.2.2 (i + 2) (by omega)]; rfl
theorem SX1.three {W w : World} {x : Nat} {v0 v1 v2 : Value} (h : SX1 W x 3 (((w.setCell ⟨x, 0, none⟩ v0).setCell ⟨x, 1, none⟩ v1).setCell ⟨x, 2, none⟩ v2)) : Blk (((w.setCell ⟨x, 0, none⟩ v0).setCell ⟨x, 1, none⟩ v1).setCell ⟨x, 2, none⟩ v2) x [v0, v1, v2] := by
 refine ⟨h.2.2.2.2.2.1, fun i => ?_, h.2.2.2.2.1⟩
 match i with
 | 0 => rw [set_other (.inr (by decide)), set_other (.inr (by decide))]; exact read_set ((set_other (.inr (by decide))).symm.trans ((set_other (.inr (by decide))).symm.trans (h.2.2.2.1 0 (by decide))))
 | 1 => rw [set_other (.inr (by decide))]; exact read_set ((set_other (.inr (by decide))).symm.trans (h.2.2.2.1 1 (by decide)))
 | 2 => exact read_set (h.2.2.2.1 2 (by decide))
 | i + 3 => rw [h.2.2.2.2.2.2 (i + 3) (by omega)]; rfl
def BlkN (W : World) (b n : Nat) : Prop := ∃ C : List Value, C.length = n ∧ Blk W b C
theorem Blk.n {W : World} {b n : Nat} {C : List Value} (h : Blk W b C) (hn : C.length = n) : BlkN W b n := ⟨C, hn, h⟩
theorem BlkN.later {W w1 : World} {b n : Nat} (h : BlkN W b n) (hb : Below W.heap.size W w1) : BlkN w1 b n := let ⟨C, hn, h⟩ := h; ⟨C, hn, h.later hb⟩
theorem BlkN.new (w : World) (C : List Value) (t : TypeId) (b n : Nat) (hn : C.length = n) (hb : b = w.heap.size) : BlkN (w.alloc (.cells C.toArray t)) b n := ⟨C, hn, Blk.new w C t b hb⟩
theorem BlkN.alloc {w : World} {b n : Nat} (h : BlkN w b n) (o : Obj) : BlkN (w.alloc o) b n := let ⟨C, hn, h⟩ := h; ⟨C, hn, h.alloc o⟩
theorem BlkN.drew {w : World} {b n : Nat} (h : BlkN w b n) : BlkN w.drew b n := h
theorem BlkN.set {w : World} {b n : Nat} (h : BlkN w b n) (i : Nat) (v : Value) : BlkN (w.setCell ⟨b, i, none⟩ v) b n := let ⟨C, hn, h⟩ := h; ⟨C.set i v, by simpa using hn, h.set i v⟩
theorem Blk.set1 {w : World} {b : Nat} {v0 : Value} (h : BlkN w b 1) : Blk (w.setCell ⟨b, 0, none⟩ v0) b [v0] := by
 match h with
 | ⟨[_], _, h⟩ => exact h.set 0 v0
theorem Blk.set2 {w : World} {b : Nat} {v0 v1 : Value} (h : BlkN w b 2) : Blk ((w.setCell ⟨b, 0, none⟩ v0).setCell ⟨b, 1, none⟩ v1) b [v0, v1] := by
 match h with
 | ⟨[_, _], _, h⟩ => exact (h.set 0 v0).set 1 v1
theorem Blk.set3 {w : World} {b : Nat} {v0 v1 v2 : Value} (h : BlkN w b 3) : Blk (((w.setCell ⟨b, 0, none⟩ v0).setCell ⟨b, 1, none⟩ v1).setCell ⟨b, 2, none⟩ v2) b [v0, v1, v2] := by
 match h with
 | ⟨[_, _, _], _, h⟩ => exact ((h.set 0 v0).set 1 v1).set 2 v2
theorem Blk.set4 {w : World} {b : Nat} {v0 v1 v2 v3 : Value} (h : BlkN w b 4) : Blk ((((w.setCell ⟨b, 0, none⟩ v0).setCell ⟨b, 1, none⟩ v1).setCell ⟨b, 2, none⟩ v2).setCell ⟨b, 3, none⟩ v3) b [v0, v1, v2, v3] := by
 match h with
 | ⟨[_, _, _, _], _, h⟩ => exact (((h.set 0 v0).set 1 v1).set 2 v2).set 3 v3
def gi (xs : List Int) (i : Nat) : Int := xs.getD i 0
theorem gi_lt {xs : List Int} {i : Nat} (h : i < xs.length) : gi xs i = xs[i] := by simp [gi, h]
theorem gi_ge {xs : List Int} {i : Nat} (h : xs.length ≤ i) : gi xs i = 0 := by simp [gi, h]
def Ints (w : World) (A : Option Addr) (n : Nat) (xs : List Int) : Prop :=
 xs.length = n ∧ (0 < n → ∃ b o, A = some ⟨b, o, none⟩ ∧ b < w.heap.size ∧ ∀ i, i < n → w.cell? ⟨b, o + i, none⟩ = some (.int .i64 (gi xs i)))
theorem Ints.len {w : World} {A : Option Addr} {n : Nat} {xs : List Int} (h : Ints w A n xs) : xs.length = n := h.1
theorem Ints.empty (w : World) (A : Option Addr) : Ints w A 0 [] := ⟨rfl, fun h => absurd h (by omega)⟩
theorem Ints.later {w w' : World} {A : Option Addr} {n : Nat} {xs : List Int} (h : Ints w A n xs) (hb : Below w.heap.size w w') : Ints w' A n xs :=
 ⟨h.1, fun hn => by
   obtain ⟨b, o, e, hl, hc⟩ := h.2 hn
   exact ⟨b, o, e, Nat.lt_of_lt_of_le hl hb.size, fun i hi => (hb.cell (p := ⟨b, o + i, none⟩) hl).trans (hc i hi)⟩⟩
theorem Ints.kept {w w' : World} {A : Option Addr} {n : Nat} {xs : List Int} (h : Ints w A n xs) (hk : Kept [] w w') : Ints w' A n xs :=
 ⟨h.1, fun hn => by
   obtain ⟨b, o, e, hl, hc⟩ := h.2 hn
   exact ⟨b, o, e, Nat.lt_of_lt_of_le hl hk.size, fun i hi => (hk.cell b (o + i) hl (by simp)).trans (hc i hi)⟩⟩
theorem Ints.at_ {w : World} {A : Option Addr} {n : Nat} {xs : List Int} (h : Ints w A n xs) (hn : 0 < n) :
   ∃ b o, A = some ⟨b, o, none⟩ ∧ b < w.heap.size ∧ ∀ i, i < n → w.cell? ⟨b, o + i, none⟩ = some (.int .i64 (gi xs i)) := h.2 hn
theorem drewN_below (B : Nat) (w : World) (n : Nat) : Below B w (w.drewN n) := ⟨rfl, rfl, rfl, Nat.le_refl _, fun _ _ => rfl⟩
theorem own_ge {w : World} {base : Nat} {e : TypeId} {size : Nat} {v : Value} {n : Nat} {xs : List Value} (h : w.ownsRow base e size v n xs) {g : Nat} (hg : v.ownBlock = some g) : base ≤ g := by
 rcases h.2 with ⟨rfl, _⟩ | ⟨g', cap, cur, rfl, hb, _⟩
 · simp [Value.ownBlock] at hg
 · simp [Value.ownBlock] at hg; omega
theorem Ints.of_own {w : World} {base : Nat} {e : TypeId} {v : Value} {n : Nat} {xs : List Int} (h : w.ownsRow base e 1 v n (xs.map (Value.int .i64))) : ∃ A c, v = .slice A n c ∧ Ints w A n xs ∧ (A = none → n = 0) := by
 have hl : xs.length = n := by simpa using h.1
 rcases h.2 with ⟨rfl, rfl⟩ | ⟨g, cap, cur, rfl, hb, hh, hnc, hcm, hcs, htk⟩
 · exact ⟨none, 0, rfl, ⟨hl, fun h => absurd h (by omega)⟩, fun _ => rfl⟩
 · refine ⟨_, cap, rfl, ⟨hl, fun hp => ⟨g, 0, rfl, ?_, fun i hi => ?_⟩⟩, fun h => by cases h⟩
   · rcases Nat.lt_or_ge g w.heap.size with h1 | h1
     · exact h1
     · rw [Array.getElem?_eq_none h1] at hh; cases hh
   · simp only [World.cell?, hh, Option.isSome_none, Bool.false_eq_true, if_false, Nat.zero_add]
     have h2 : (xs.map (Value.int .i64))[i]? = some (.int .i64 (gi xs i)) := by
       rw [List.getElem?_map, List.getElem?_eq_getElem (by omega), gi_lt (by omega)]; rfl
     rw [← htk, List.getElem?_take_of_lt (by omega)] at h2
     simpa using h2
theorem add_lit (b o j : Nat) : (⟨b, o, none⟩ : Addr).add j = ⟨b, o + j, none⟩ := by
 unfold Addr.add; split
 · subst_vars; rfl
 · rfl
theorem Ints.news {w : World} {a : Addr} {n : Nat} {xs : List Int} (h : Ints w (some a) n xs) : ∀ j u, (xs.map (Value.int .i64))[j]? = some u → w.cell? (a.add j) = some u := by
 intro j u hu
 rw [List.getElem?_map] at hu
 rcases Nat.lt_or_ge j xs.length with hj | hj
 · have hl := h.1
   obtain ⟨b, o, e, _, hc⟩ := h.2 (by omega)
   injection e with e
   subst e
   rw [List.getElem?_eq_getElem hj] at hu
   simp at hu
   rw [add_lit, hc j (by omega), ← hu, gi_lt hj]
 · rw [List.getElem?_eq_none hj] at hu; simp at hu
theorem ints_one (xs : List Int) : ∀ u ∈ xs.map (Value.int .i64), u.oneCell' = true := by
 intro u hu; simp at hu; obtain ⟨x, _, rfl⟩ := hu; rfl
def Fit (xs : List Int) : Prop := ∀ x ∈ xs, -9223372036854775808 ≤ x ∧ x ≤ 9223372036854775807
theorem Fit.gi {xs : List Int} (h : Fit xs) (i : Nat) : -9223372036854775808 ≤ gi xs i ∧ Df.gi xs i ≤ 9223372036854775807 := by
 by_cases hi : i < xs.length
 · rw [gi_lt hi]; exact h _ (List.getElem_mem hi)
 · rw [gi_ge (by omega)]; omega
def SIn (w : World) (A : Option Addr) (n c : Nat) (xs : List Int) : Prop := Ints w A n xs ∧ n ≤ c ∧ c ≤ 9223372036854775807 ∧ (A = none → n = 0)
theorem SIn.later {w w1 : World} {A : Option Addr} {n c : Nat} {xs : List Int} (h : SIn w A n c xs) (hb : Below w.heap.size w w1) : SIn w1 A n c xs := ⟨h.1.later hb, h.2⟩
theorem SIn.kept {w w1 : World} {A : Option Addr} {n c : Nat} {xs : List Int} (h : SIn w A n c xs) (hb : Kept [] w w1) : SIn w1 A n c xs := ⟨h.1.kept hb, h.2⟩
theorem SIn.keptX {X : List Nat} {w w1 : World} {A : Option Addr} {n c : Nat} {xs : List Int} (h : SIn w A n c xs) (hk : Kept X w w1) (hx : 0 < n → ∀ a, A = some a → a.block ∉ X) : SIn w1 A n c xs :=
 ⟨⟨h.1.1, fun hn => by
   obtain ⟨b, o, e, hl, hc⟩ := h.1.2 hn
   have hb := hx hn _ e
   exact ⟨b, o, e, Nat.lt_of_lt_of_le hl hk.size, fun i hi => (hk.cell b (o + i) hl hb).trans (hc i hi)⟩⟩, h.2⟩
theorem SIn.lt {w : World} {A : Option Addr} {n c : Nat} {xs : List Int} (h : SIn w A n c xs) (hn : 0 < n) {a : Addr} (ha : A = some a) : a.block < w.heap.size := by
 obtain ⟨b, o, e, hl, _⟩ := h.1.2 hn
 rw [e] at ha; injection ha with ha; subst ha; exact hl
theorem SIn.nil (w : World) : SIn w none 0 0 [] := ⟨Ints.empty _ _, Nat.le_refl _, by omega, fun _ => rfl⟩
theorem SIn.of_own {w : World} {base : Nat} {e : TypeId} {v : Value} {n : Nat} {xs : List Int} (h : w.ownsRow base e 1 v n (xs.map (Value.int .i64))) : ∃ A c, v = .slice A n c ∧ SIn w A n c xs ∧ ∀ a, A = some a → base ≤ a.block ∧ a.block < w.heap.size := by
 obtain ⟨A, c, hv, hi, hn⟩ := Ints.of_own h
 refine ⟨A, c, hv, ⟨hi, ?_, ?_, hn⟩, ?_⟩
 · rcases h.2 with ⟨h1, h2⟩ | ⟨g, cap, cur, h1, _, _, h3, h4, _⟩
   · omega
   · rw [hv] at h1; injection h1 with _ _ h5; omega
 · rcases h.2 with ⟨h1, h2⟩ | ⟨g, cap, cur, h1, _, _, h3, h4, _⟩
   · rw [hv] at h1; injection h1 with _ _ h5; omega
   · rw [hv] at h1; injection h1 with _ _ h5; unfold maxLen at h4; omega
 · intro a ha
   subst ha
   refine ⟨own_ge h (by rw [hv]; rfl), ?_⟩
   rcases h.2 with ⟨h1, h2⟩ | ⟨g, cap, cur, h1, _, h3, _⟩
   · rw [hv] at h1; injection h1 with h1; cases h1
   · rw [hv] at h1; injection h1 with h1; injection h1 with h1; subst h1
     rcases Nat.lt_or_ge g w.heap.size with h4 | h4
     · exact h4
     · rw [Array.getElem?_eq_none h4] at h3; cases h3
def Fr (w w' : World) (A : Option Addr) : Prop := ∀ a, A = some a → w.heap.size ≤ a.block ∧ a.block < w'.heap.size
theorem Fr.none (w w' : World) : Fr w w' none := fun _ h => by cases h
theorem own_keptX {X : List Nat} {w w1 : World} {base : Nat} {e : TypeId} {v : Value} {n : Nat} {xs : List Value} (h : w.ownsRow base e 1 v n xs) (hk : Kept X w w1) (hX : ∀ g, v.ownBlock = some g → g ∉ X) : w1.ownsRow base e 1 v n xs := by
 refine ⟨h.1, ?_⟩
 rcases h.2 with h1 | ⟨g, cap, cur, h1, h2, h3, h4⟩
 · exact .inl h1
 · refine .inr ⟨g, cap, cur, h1, h2, ?_, h4⟩
   rw [hk.block g (by
     rcases Nat.lt_or_ge g w.heap.size with h1 | h1
     · exact h1
     · rw [Array.getElem?_eq_none h1] at h3; cases h3) (hX g (by rw [h1]; rfl))]
   exact h3
theorem own_later {w w1 : World} {base : Nat} {e : TypeId} {v : Value} {n : Nat} {xs : List Value} (h : w.ownsRow base e 1 v n xs) (hb : Below w.heap.size w w1) : w1.ownsRow base e 1 v n xs :=
 own_keptX (X := []) h ((Kept.refl _ _).call hb) (by simp)
theorem own_alloc {w : World} {base : Nat} {e : TypeId} {v : Value} {n : Nat} {xs : List Value} (h : w.ownsRow base e 1 v n xs) (o : Obj) : (w.alloc o).ownsRow base e 1 v n xs := own_later h ((Below.refl _ _).alloc (Nat.le_refl _) o)
theorem own_drew {w : World} {base : Nat} {e : TypeId} {v : Value} {n : Nat} {xs : List Value} (h : w.ownsRow base e 1 v n xs) : w.drew.ownsRow base e 1 v n xs := h
theorem own_lt {w : World} {base : Nat} {e : TypeId} {v : Value} {n : Nat} {xs : List Value} (h : w.ownsRow base e 1 v n xs) {g : Nat} (hg : v.ownBlock = some g) : g < w.heap.size := by
 rcases h.2 with ⟨rfl, _⟩ | ⟨g', cap, cur, rfl, h2, h3, h4⟩
 · simp [Value.ownBlock] at hg
 · simp [Value.ownBlock] at hg; subst hg
   rcases Nat.lt_or_ge g' w.heap.size with h1 | h1
   · exact h1
   · rw [Array.getElem?_eq_none h1] at h3; cases h3
theorem own_rng {w : World} {base : Nat} {e : TypeId} {v : Value} {n : Nat} {xs : List Value} (h : w.ownsRow base e 1 v n xs) : Hid (∀ g, v.ownBlock = some g → base ≤ g ∧ g < w.heap.size) := fun _ hg => ⟨own_ge h hg, own_lt h hg⟩
theorem own_base {w : World} {base base' : Nat} {e : TypeId} {v : Value} {n : Nat} {xs : List Value} (h : w.ownsRow base e 1 v n xs) (hb : base' ≤ base) : w.ownsRow base' e 1 v n xs := by
 refine ⟨h.1, ?_⟩
 rcases h.2 with h1 | ⟨g, cap, cur, h1, h2, h4⟩
 · exact .inl h1
 · exact .inr ⟨g, cap, cur, h1, by omega, h4⟩
theorem own_set {w : World} {base : Nat} {e : TypeId} {v : Value} {n : Nat} {xs : List Value} (h : w.ownsRow base e 1 v n xs) (b i : Nat) (u : Value) (hX : ∀ g, v.ownBlock = some g → b ≠ g) : (w.setCell ⟨b, i, none⟩ u).ownsRow base e 1 v n xs :=
 own_keptX (X := [b]) h ((Kept.refl _ _).set b i u (.inl (by simp))) (fun g hg => by simpa using fun e => hX g hg e.symm)
theorem own_slice {w : World} {base : Nat} {e : TypeId} {v : Value} {n : Nat} {xs : List Value} (h : w.ownsRow base e 1 v n xs) : ∃ A c, v = .slice A n c := by
 rcases h.2 with ⟨rfl, rfl⟩ | ⟨g', cap, cur, rfl, h2, h3, h4⟩
 · exact ⟨_, _, rfl⟩
 · exact ⟨_, _, rfl⟩
def Rd (w : World) (k : Nat) (A : Option Addr) (n : Nat) (cs : List Value) : Prop :=
 cs.length = n * k ∧ (0 < n → ∃ b o, A = some ⟨b, o, none⟩ ∧ b < w.heap.size ∧ ∀ j, j < n * k → w.cell? ⟨b, o + j, none⟩ = cs[j]?)
theorem Rd.keptX {X : List Nat} {w w' : World} {k n : Nat} {A : Option Addr} {cs : List Value} (h : Rd w k A n cs) (hk : Kept X w w') (hx : ∀ a, A = some a → a.block ∉ X) : Rd w' k A n cs :=
 ⟨h.1, fun hn => by
   obtain ⟨b, o, e, hl, hc⟩ := h.2 hn
   exact ⟨b, o, e, Nat.lt_of_lt_of_le hl hk.size, fun j hj => (hk.cell b (o + j) hl (hx _ e)).trans (hc j hj)⟩⟩
theorem Rd.kept {w w' : World} {k n : Nat} {A : Option Addr} {cs : List Value} (h : Rd w k A n cs) (hk : Kept [] w w') : Rd w' k A n cs := h.keptX hk (by simp)
theorem Rd.later {w w' : World} {k n : Nat} {A : Option Addr} {cs : List Value} (h : Rd w k A n cs) (hb : Below w.heap.size w w') : Rd w' k A n cs := h.kept ((Kept.refl _ _).call hb)
theorem Rd.alloc {w : World} {k n : Nat} {A : Option Addr} {cs : List Value} (h : Rd w k A n cs) (o : Obj) : Rd (w.alloc o) k A n cs := h.kept ((Kept.refl _ _).alloc o)
theorem Rd.drew {w : World} {k n : Nat} {A : Option Addr} {cs : List Value} (h : Rd w k A n cs) : Rd w.drew k A n cs := h
theorem Rd.new1 (w : World) (b : Nat) (v : Value) (t : TypeId) (hb : b = w.heap.size) : Rd (w.alloc (.cells #[v] t)) 1 (some ⟨b, 0, none⟩) 1 [v] := by
 subst hb
 refine ⟨rfl, fun _ => ⟨_, _, rfl, by simp, fun j _ => ?_⟩⟩
 rw [World.cell?_alloc_new, Nat.zero_add]; simp
theorem Rd.news {w : World} {k n : Nat} {a : Addr} {cs : List Value} (h : Rd w k (some a) n cs) : ∀ j u, cs[j]? = some u → w.cell? (a.add j) = some u := by
 intro j u hu
 rcases Nat.lt_or_ge j cs.length with hj | hj
 · have hl := h.1
   obtain ⟨b, o, e, _, hc⟩ := h.2 (by
     rcases Nat.eq_zero_or_pos n with h0 | h0
     · subst h0; simp at hl; simp [hl] at hj
     · exact h0)
   injection e with e
   subst e
   rw [add_lit, hc j (by omega), hu]
 · rw [List.getElem?_eq_none hj] at hu; cases hu
theorem kept_grown {w w' : World} {row : Option Nat} (h : w.grownBy w' row) : Kept row.toList w w' :=
 ⟨h.os, h.tape, h.output, h.size, fun k hk hx => h.block k hk (fun e => hx (by simp [← e]))⟩
section
variable {P : Program} (w : World)
theorem run_append_rd (base : Nat) (t ty e : TypeId) (i : TypeInfo) (z : Value) (size bytes : Nat) (ht : P.underlying t = some (.slice e)) (hi : P.info? e = some i) (hz : i.zero = some z)
   (hsize : i.size = size) (hby : i.bytes = bytes) (hzs : z.cells.size = size) (hsz : 0 < size)
   (v : Value) (n : Nat) (xs : List Value) (hown : w.ownsRow base e size v n xs)
   (A : Option Addr) (m c : Nat) (news : List Value) (hr : Rd w size A m news) (hA : A = none → m = 0) (h1 : ∀ u ∈ news, u.oneCell' = true)
   (N : Nat) (hN : n + m = N) (ys : List Value) (hys : xs ++ news = ys) (h63 : N ≤ maxLen) (hbytes : N * bytes ≤ 140737488355328) (hbase : base ≤ w.heap.size) :
   ∃ A' c' w', (Builtin.append_ #[t, t] ty #[v, .slice A m c]).run P w = .ok (.slice A' N c') w' ∧ w'.ownsRow base e size (.slice A' N c') N ys ∧ Kept v.ownBlock.toList w w' ∧
     (∀ g, (Value.slice A' N c').ownBlock = some g → v.ownBlock = some g ∨ g = w.heap.size) := by
 subst hN hys
 have form : ∀ (w' : World) (v' : Value) (k : Nat) (ys : List Value), w'.ownsRow base e size v' k ys → ∃ A' c', v' = .slice A' k c' := by
   intro w' v' k ys h
   rcases h.2 with ⟨rfl, rfl⟩ | ⟨g', cap, cur, rfl, _⟩
   · exact ⟨_, _, rfl⟩
   · exact ⟨_, _, rfl⟩
 cases A with
 | none =>
   have hm := hA rfl
   subst hm
   have hn : news = [] := List.eq_nil_of_length_eq_zero (by simpa using hr.1)
   subst hn
   have hrun : (Builtin.append_ #[t, t] ty #[v, .slice none 0 c]).run P w = .ok v w := by
     rcases hown.2 with ⟨rfl, rfl⟩ | ⟨g, cap, cur, rfl, _, _, hnc, _⟩
     · simp [Builtin.append_, run_underlying ht, Go.sizeOf, typeInfo, hi, Builtin.lenOf, Builtin.firstCells]
     · simp [Builtin.append_, run_underlying ht, Go.sizeOf, typeInfo, hi, Builtin.lenOf, Builtin.firstCells, hnc, storeCells]
   obtain ⟨A', c', rfl⟩ := form w v n xs hown
   exact ⟨A', c', w, hrun, by simpa using hown, Kept.refl _ _, fun g hg => .inl hg⟩
 | some a =>
   obtain ⟨v', w', hrun, h2, h3, _, h5⟩ := run_append_own_at (P := P) w base t ty e i z size bytes ht hi hz hsize hby hzs hsz v n xs hown a m c news hr.1 hr.news h1 h63 hbytes hbase
   obtain ⟨A', c', rfl⟩ := form _ _ _ _ h2
   refine ⟨A', c', w', hrun, h2, kept_grown h3, fun g hg => ?_⟩
   rcases h5 with h5 | h5
   · exact .inl (h5.symm.trans hg)
   · rw [h5] at hg; injection hg with hg; exact .inr hg.symm
theorem wp_append_rd {o : Oper} {a : Act} {K : Act → World → Prop} {Q : Exit → Act → World → Prop} (s x : Operand) (t : TypeId)
   (ho : o.op = .call { callee := .builtin .append, args := #[s, x], argTypes := #[t, t] })
   (base : Nat) (e : TypeId) (i : TypeInfo) (z : Value) (size bytes : Nat) (ht : P.underlying t = some (.slice e)) (hi : P.info? e = some i) (hz : i.zero = some z)
   (hsize : i.size = size) (hby : i.bytes = bytes) (hzs : z.cells.size = size) (hsz : 0 < size)
   (v : Value) (n : Nat) (xs : List Value) (hs : a.eval s = v) (hown : w.ownsRow base e size v n xs)
   (A : Option Addr) (m c : Nat) (news : List Value) (hx : a.eval x = .slice A m c) (hr : Rd w size A m news) (hA : A = none → m = 0) (h1 : ∀ u ∈ news, u.oneCell' = true)
   (N : Nat) (hN : n + m = N) (ys : List Value) (hys : xs ++ news = ys) (h63 : N ≤ maxLen) (hbytes : N * bytes ≤ 140737488355328) (hbase : base ≤ w.heap.size)
   (h : ∀ A' c' w', w'.ownsRow base e size (.slice A' N c') N ys → Kept v.ownBlock.toList w w' → (∀ g, (Value.slice A' N c').ownBlock = some g → v.ownBlock = some g ∨ g = w.heap.size) → K (a.put o.dst (.slice A' N c')) w') : o.wp P a w K Q := by
 obtain ⟨A', c', w', hr, h2, h3, h4⟩ := run_append_rd (P := P) w base t o.type e i z size bytes ht hi hz hsize hby hzs hsz v n xs hown A m c news hr hA h1 N hN ys hys h63 hbytes hbase
 unfold Oper.wp execOp
 simp only [ho, resolve, invoke, builtin, Sem.run_bind, Sem.run_pure, Result.andThen_ok, List.map_toArray, List.map_cons, List.map_nil, hs, hx, hr]
 exact h A' c' w' h2 h3 h4
theorem wpList_append_rd {ops : Array Oper} {rest : List Oper} {o : Oper} {a : Act} {Q : Exit → Act → World → Prop} (hgd : o.guard = none) (s x : Operand) (t : TypeId)
   (ho : o.op = .call { callee := .builtin .append, args := #[s, x], argTypes := #[t, t] })
   (base : Nat) (e : TypeId) (i : TypeInfo) (z : Value) (size bytes : Nat) (ht : P.underlying t = some (.slice e)) (hi : P.info? e = some i) (hz : i.zero = some z)
   (hsize : i.size = size) (hby : i.bytes = bytes) (hzs : z.cells.size = size) (hsz : 0 < size)
   (v : Value) (n : Nat) (xs : List Value) (hs : a.eval s = v) (hown : w.ownsRow base e size v n xs)
   (A : Option Addr) (m c : Nat) (news : List Value) (hx : a.eval x = .slice A m c) (hr : Rd w size A m news) (hA : A = none → m = 0) (h1 : ∀ u ∈ news, u.oneCell' = true)
   (N : Nat) (hN : n + m = N) (ys : List Value) (hys : xs ++ news = ys) (h63 : N ≤ maxLen) (hbytes : N * bytes ≤ 140737488355328) (hbase : base ≤ w.heap.size)
   (h : ∀ A' c' w', w'.ownsRow base e size (.slice A' N c') N ys → Kept v.ownBlock.toList w w' → (∀ g, (Value.slice A' N c').ownBlock = some g → v.ownBlock = some g ∨ g = w.heap.size) → wpList P ops Q rest (a.put o.dst (.slice A' N c')) w') : wpList P ops Q (o :: rest) a w :=
 wpList_plain hgd fun _ hK => wp_append_rd w s x t ho base e i z size bytes ht hi hz hsize hby hzs hsz v n xs hs hown A m c news hx hr hA h1 N hN ys hys h63 hbytes hbase fun A' c' w' h2 h3 h4 => hK _ _ (h A' c' w' h2 h3 h4)
theorem step_append_rd {ops : Array Oper} {o : Oper} {a : Act} {K : Act → World → Prop} {Q : Exit → Act → World → Prop} {E : Prop} (hgd : o.guard = none) (s x : Operand) (t : TypeId)
   (ho : o.op = .call { callee := .builtin .append, args := #[s, x], argTypes := #[t, t] })
   (base : Nat) (e : TypeId) (i : TypeInfo) (z : Value) (size bytes : Nat) (ht : P.underlying t = some (.slice e)) (hi : P.info? e = some i) (hz : i.zero = some z)
   (hsize : i.size = size) (hby : i.bytes = bytes) (hzs : z.cells.size = size) (hsz : 0 < size)
   (v : Value) (n : Nat) (xs : List Value) (hs : a.eval s = v) (hown : w.ownsRow base e size v n xs)
   (A : Option Addr) (m c : Nat) (news : List Value) (hx : a.eval x = .slice A m c) (hr : Rd w size A m news) (hA : A = none → m = 0) (h1 : ∀ u ∈ news, u.oneCell' = true)
   (N : Nat) (hN : n + m = N) (ys : List Value) (hys : xs ++ news = ys) (h63 : N ≤ maxLen) (hbytes : N * bytes ≤ 140737488355328) (hbase : base ≤ w.heap.size)
   (h : ∀ A' c' w', w'.ownsRow base e size (.slice A' N c') N ys → Kept v.ownBlock.toList w w' → (∀ g, (Value.slice A' N c').ownBlock = some g → v.ownBlock = some g ∨ g = w.heap.size) → K (a.put o.dst (.slice A' N c')) w') :
   if Region.wanted o (yielded ops a.tmps) = true then Oper.wp P o a w K Q else E := by
 have hw : Region.wanted o (yielded ops a.tmps) = true := by simp [Region.wanted, hgd]
 rw [if_pos hw]
 exact wp_append_rd w s x t ho base e i z size bytes ht hi hz hsize hby hzs hsz v n xs hs hown A m c news hx hr hA h1 N hN ys hys h63 hbytes hbase h
end
theorem kept_fresh {X : List Nat} {W w w' : World} (h : Kept [] W w) (h' : Kept X w w') (hx : ∀ x ∈ X, W.heap.size ≤ x) : Kept [] W w' :=
 ⟨h'.os.trans h.os, h'.tape.trans h.tape, h'.output.trans h.output, Nat.le_trans h.size h'.size, fun k hk _ => (h'.block k (Nat.lt_of_lt_of_le hk h.size) (fun hm => by have := hx k hm; omega)).trans (h.block k hk (by simp))⟩
theorem Rd.cut {w : World} {A : Option Addr} {n c k : Nat} {cs : List Value} (h : Rd w 1 A n cs) (hk : k ≤ n) (hc : n ≤ c) : Rd w 1 (if c = k then A else A.map (·.add k)) (n - k) (cs.drop k) := by
 have hl := h.1
 refine ⟨by simp; omega, fun h0 => ?_⟩
 obtain ⟨b, o, e, hb, hcell⟩ := h.2 (by omega)
 rw [if_neg (by omega), e]
 exact ⟨b, o + k, by simp [add_lit], hb, fun j hj => by rw [List.getElem?_drop, ← hcell (k + j) (by omega), Nat.add_assoc]⟩
theorem Rd.drewN {w : World} {k n : Nat} {A : Option Addr} {cs : List Value} (h : Rd w k A n cs) (q : Nat) : Rd (w.drewN q) k A n cs := h
theorem own_drewN {w : World} {base : Nat} {e : TypeId} {v : Value} {n : Nat} {xs : List Value} (h : w.ownsRow base e 1 v n xs) (q : Nat) : (w.drewN q).ownsRow base e 1 v n xs := h
theorem SIn.inW {w : World} {A : Option Addr} {n c : Nat} {xs : List Int} (h : SIn w A n c xs) (hp : xs ≠ []) {a : Addr} (ha : A = some a) : a.block < w.heap.size := by
 obtain ⟨b, o, e, hl, _⟩ := h.1.2 (by have := h.1.1; have := List.length_pos_iff.2 hp; omega)
 rw [e] at ha; injection ha with ha; subst ha; exact hl
theorem SIn.drewN {w : World} {A : Option Addr} {n c : Nat} {xs : List Int} (h : SIn w A n c xs) (q : Nat) : SIn (w.drewN q) A n c xs := h
theorem keptTrans {W V U : World} (h : Kept [] W V) (k : Kept [] V U) : Kept [] W U := kept_fresh h k (by simp)
theorem SIn.apart {w w1 w2 : World} {A : Option Addr} {n c g : Nat} {xs : List Int} (h : SIn w1 A n c xs) (hf : Fr w w1 A) (hg : g < w.heap.size) (hk : Kept [g] w1 w2) : SIn w2 A n c xs :=
 h.keptX hk (fun _ a ha => by have := hf a ha; simp; omega)
theorem SIn.alloc {w : World} {A : Option Addr} {n c : Nat} {xs : List Int} (h : SIn w A n c xs) (o : Obj) : SIn (w.alloc o) A n c xs := h.kept ((Kept.refl _ _).alloc o)
theorem SIn.tail {w : World} {b o n c : Nat} {xs : List Int} (h : SIn w (some ⟨b, o, none⟩) n c xs) (hn : 0 < n) : Ints w (if c = 1 then some ⟨b, o, none⟩ else some ⟨b, o + 1, none⟩) (n - 1) (xs.drop 1) := by
 have hl := h.1.1
 refine ⟨by rw [List.length_drop, hl], fun h0 => ?_⟩
 obtain ⟨b', o', e, hlt, hc⟩ := h.1.2 hn
 injection e with e
 injection e with e1 e2
 subst e1 e2
 have hcap := h.2.1
 rw [if_neg (by omega)]
 refine ⟨b, o + 1, rfl, hlt, fun i hi => ?_⟩
 rw [show o + 1 + i = o + (1 + i) by omega, hc (1 + i) (by omega), gi_lt (by omega), gi_lt (by rw [List.length_drop]; omega), List.getElem_drop]
theorem SIn.two {w : World} {A : Option Addr} {n c b : Nat} {xs : List Int} {u v : Value} (h : SIn w A n c xs) (hx : ∀ a, A = some a → a.block ≠ b) : SIn ((w.setCell ⟨b, 0, none⟩ u).setCell ⟨b, 1, none⟩ v) A n c xs :=
 h.keptX (X := [b]) (((Kept.refl [b] w).set b 0 u (.inl (by simp))).set b 1 v (.inl (by simp))) (fun _ a ha => by have := hx a ha; simpa using this)
theorem then_named {K : Act → World → Prop} {Q : Exit → Act → World → Prop} {e : Exit} {a : Act} {w : World} (S : World → Prop) (h0 : S w) (h : ∀ W, S W → Exit.then K Q e a W) : Exit.then K Q e a w := h w h0
theorem ret_int {k : IntKind} {a b : Int} (h : a = b) : Ending.returned (.int k a) = .returned (.int k b) := by rw [h]
theorem ret_bool {a b : Bool} (h : a = b) : Ending.returned (.bool a) = .returned (.bool b) := by rw [h]
theorem Kept.setCells {X : List Nat} {W : World} (b : Nat) (hb : b ∈ X ∨ W.heap.size ≤ b) : ∀ (vs : List Value) (o : Nat) {w : World}, Kept X W w → Kept X W (w.setCells b o vs)
 | [], _, _, h => h
 | v :: r, o, _, h => Kept.setCells b hb r (o + 1) (h.set b o v hb)
theorem size_setCells (b : Nat) : ∀ (vs : List Value) (o : Nat) (w : World), (w.setCells b o vs).heap.size = w.heap.size
 | [], _, _ => rfl
 | v :: r, o, w => by rw [World.setCells, size_setCells b r]; simp [World.setCell]
theorem map_gi {l : List Int} {j : Nat} (h : j < l.length) : (l.map (Value.int .i64))[j]? = some (.int .i64 (gi l j)) := by
 rw [List.getElem?_map, List.getElem?_eq_getElem h, gi_lt h]; rfl
end Go.Df
namespace Go.Df
open Go.RowKit
theorem kp0 {p : Prop} (h : p := by (repeat' first | (with_reducible assumption) | (with_reducible exact SX0.init _) | (with_reducible exact SX0.refl _) | (with_reducible refine SX0.alloc ?_ _) | (with_reducible refine SX0.call ?_ (by assumption)) | (with_reducible refine SX0.set ?_ _ _ _ ?_) | (with_reducible refine SX0.drew ?_) | (simp; done) | omega | (simp; omega))) : p := h
theorem kpt0 {p : Prop} (h : p := by (repeat' first | (with_reducible assumption) | (with_reducible exact Kept.refl _ _) | (with_reducible refine Kept.alloc ?_ _) | (with_reducible refine Kept.call ?_ (by assumption)) | (with_reducible refine Kept.set ?_ _ _ _ (Or.inr ?_)) | (with_reducible refine Kept.drew ?_) | (simp; done) | omega | (simp; omega))) : p := h
theorem kpb {p : Prop} (h : p := by (repeat' first | (with_reducible assumption) | (with_reducible refine Blk.set1 ?_) | (with_reducible refine Blk.set2 ?_) | (with_reducible refine Blk.set3 ?_) | (with_reducible refine Blk.set4 ?_) | ((with_reducible refine Blk.new _ _ _ _ ?_); simp; done) | ((with_reducible refine BlkN.new _ _ _ _ _ rfl ?_); simp; done) | (with_reducible refine BlkN.later ?_ (by assumption)) | (with_reducible refine Blk.later ?_ (by assumption)) | (with_reducible refine Blk.alloc ?_ _) | (with_reducible refine BlkN.alloc ?_ _) | (with_reducible refine Blk.drew ?_) | (with_reducible refine BlkN.drew ?_))) : p := h
theorem kbn {p : Prop} (h : p := by exact Blk.new _ _ _ _ (by first | rfl | simp)) : p := h
end Go.Df
namespace Go.Df.Sp
structure Nd where
 f : Int
 k : Int
 i : Int
deriving DecidableEq
structure Ed where
 a : Int
 b : Int
 k : Int
 c : Int
deriving DecidableEq
def Nd.cs (n : Nd) : List Value := [.int .i64 n.f, .int .i64 n.k, .int .i64 n.i]
def Ed.cs (e : Ed) : List Value := [.int .i64 e.a, .int .i64 e.b, .int .i64 e.k, .int .i64 e.c]
def cmpI (x y : Int) : Int := if x < y then -1 else if y < x then 1 else 0
def orL : List Int → Int
 | [] => 0
 | x :: l => if x = 0 then orL l else x
def lessN (a b : Nd) : Bool := if a.f ≠ b.f then decide (a.f < b.f) else if a.k ≠ b.k then decide (a.k < b.k) else decide (a.i < b.i)
def lessE (a b : Ed) : Bool := if a.a ≠ b.a then decide (a.a < b.a) else if a.b ≠ b.b then decide (a.b < b.b) else if a.k ≠ b.k then decide (a.k < b.k) else decide (a.c < b.c)
def ordN (a b : Nd) : Int := orL [cmpI a.f b.f, cmpI a.k b.k, cmpI a.i b.i]
def ordE (a b : Ed) : Int := orL [cmpI a.a b.a, cmpI a.b b.b, cmpI a.k b.k, cmpI a.c b.c]
theorem or_cmp (x y : Int) (l : List Int) : decide (0 ≤ orL (cmpI x y :: l)) = if x ≠ y then !decide (x < y) else decide (0 ≤ orL l) := by
 rw [orL]
 unfold cmpI
 by_cases h1 : x < y
 · simp [h1, show x ≠ y by omega]
 · by_cases h2 : y < x
   · simp [h1, h2, show x ≠ y by omega]
   · simp [show x = y by omega]
theorem or_last (x y : Int) : decide (0 ≤ orL [cmpI x y]) = !decide (x < y) := by
 rw [or_cmp]
 split
 · rfl
 · rename_i h
   have : ¬ x < y := by omega
   simp [orL, this]
theorem ordN_ge (a b : Nd) : decide (0 ≤ ordN a b) = !lessN a b := by
 unfold ordN lessN
 rw [or_cmp, or_cmp, or_last]
 split
 · rfl
 · split <;> rfl
theorem ordE_ge (a b : Ed) : decide (0 ≤ ordE a b) = !lessE a b := by
 unfold ordE lessE
 rw [or_cmp, or_cmp, or_cmp, or_last]
 split
 · rfl
 · split
   · rfl
   · split <;> rfl
end Go.Df.Sp
namespace Go.Proofs.YtooejoajojanjaaGreatDoor
open Go.RowKit Go.Df
attribute [local go_sem ↓] Go.wp_at_zero Go.wp_at_succ
theorem int_info : (Tryz.prog.info? 3).map (fun i => (i.zero, i.size, i.bytes)) = some (some (.int .i64 0), 1, 8) := by kernel_rfl
theorem isNaN_any (x : Int) (w : World) : Calls Tryz.prog 110 #[.int .i64 x] w fun e w' => e = .returned (.bool false) ∧ w = w' := by
 go_enter Tryz.func110, Tryz.ntmps110
 go_wp2
 go_ret
 exact ⟨ret_bool (by simp), rfl⟩
theorem compare_any (x y : Int) (w : World) : Calls Tryz.prog 68 #[.int .i64 x, .int .i64 y] w fun e w' => e = .returned (.int .i64 (Sp.cmpI x y)) ∧ w = w' := by
 go_enter Tryz.func68, Tryz.ntmps68
 go_wp2_with (go_at_call 110; refine (isNaN_any _ _).mono ?_; rintro e w' ⟨rfl, rfl⟩)
 all_goals (go_ret; refine ⟨ret_int ?_, rfl⟩; unfold Sp.cmpI; first | (rw [if_pos (by omega)]) | (rw [if_neg (by omega), if_pos (by omega)]) | (rw [if_neg (by omega), if_neg (by omega)]))
theorem Sp.or_at {l : List Int} {k : Nat} (h : ∀ j, j < k → gi l j = 0) (hk : k < l.length) (h0 : gi l k ≠ 0) : Sp.orL l = gi l k := by
 induction l generalizing k with
 | nil => simp at hk
 | cons x l ih =>
   rw [Sp.orL]
   cases k with
   | zero => rw [if_neg (show ¬ x = 0 from h0)]; rfl
   | succ k =>
     have h1 : x = 0 := h 0 (by omega)
     rw [if_pos h1]
     exact ih (fun j hj => h (j + 1) (by omega)) (by simpa using hk) h0
theorem Sp.or_none {l : List Int} (h : ∀ j, j < l.length → gi l j = 0) : Sp.orL l = 0 := by
 induction l with
 | nil => rfl
 | cons x l ih =>
   have h1 : x = 0 := h 0 (by simp)
   rw [Sp.orL, if_pos h1]
   exact ih (fun j hj => h (j + 1) (by simpa using hj))
set_option maxHeartbeats 400000 in
theorem or_any (A : Option Addr) (n c : Nat) (l : List Int) (w : World) (hl : Ints w A n l) (hp : 0 < n) (hn : n ≤ 1000) :
   Calls Tryz.prog 67 #[.slice A n c] w fun e w' => e = .returned (.int .i64 (Sp.orL l)) ∧ w = w' := by
 obtain ⟨b, o, rfl, hlt, hc⟩ := hl.at_ hp
 have HL := Lib.hid hl.1
 have HC := Lib.hid hc
 clear hc hl
 go_enter Tryz.func67, Tryz.ntmps67
 go_wp2
 go_loop [8] (fun i => ∃ k : Nat, k ≤ n ∧ i = .int .i64 k ∧ Hid (∀ j, j < k → gi l j = 0)) (fun i => n - (intOf i).toNat)
 case atStart => exact ⟨0, Nat.zero_le _, rfl, Lib.hid (fun j hj => absurd hj (by omega))⟩
 case round =>
   obtain ⟨k, hk, rfl, hj⟩ := hrel
   by_cases hlt2 : k < n
   · have hcell := HC.out k hlt2
     by_cases h0 : gi l k = 0
     · have e1 : (gi l k != 0) = false := by simp [h0]
       have H0 := Lib.hid h0
       clear h0
       go_wp2
       go_round
       case rel =>
         refine ⟨k + 1, by omega, by go_num, Lib.hid (fun j hj1 => ?_)⟩
         rcases Nat.lt_or_ge j k with h2 | h2
         · exact hj.out j h2
         · obtain rfl : j = k := by omega
           exact H0.out
       case measure => simp [intOf]; omega
     · have e1 : (gi l k != 0) = true := by simp [h0]
       go_wp2
       go_ret
       exact ⟨ret_int (Sp.or_at hj.out (by rw [HL.out]; exact hlt2) h0).symm, rfl⟩
   · go_wp2
     go_ret
     exact ⟨ret_int (Sp.or_none (fun j hj1 => hj.out j (by rw [HL.out] at hj1; omega))).symm, rfl⟩
theorem Ints.drew {w : World} {A : Option Addr} {n : Nat} {xs : List Int} (h : Ints w A n xs) : Ints w.drew A n xs := h
theorem three_ints (w : World) (x y z : Int) (t : TypeId) (b : Nat) (hb : b = w.heap.size) : Ints (w.alloc (.cells #[.int .i64 x, .int .i64 y, .int .i64 z] t)) (some ⟨b, 0, none⟩) 3 [x, y, z] := by
 subst hb
 refine ⟨rfl, fun _ => ⟨_, _, rfl, by simp, fun i hi => ?_⟩⟩
 rw [World.cell?_alloc_new, Nat.zero_add]
 match i, hi with
 | 0, _ => rfl
 | 1, _ => rfl
 | 2, _ => rfl
theorem four_ints (w : World) (x y z u : Int) (t : TypeId) (b : Nat) (hb : b = w.heap.size) : Ints (w.alloc (.cells #[.int .i64 x, .int .i64 y, .int .i64 z, .int .i64 u] t)) (some ⟨b, 0, none⟩) 4 [x, y, z, u] := by
 subst hb
 refine ⟨rfl, fun _ => ⟨_, _, rfl, by simp, fun i hi => ?_⟩⟩
 rw [World.cell?_alloc_new, Nat.zero_add]
 match i, hi with
 | 0, _ => rfl
 | 1, _ => rfl
 | 2, _ => rfl
 | 3, _ => rfl
set_option maxHeartbeats 1000000 in
theorem orderNode_any (f k i f' k' i' : Int) (w : World) :
   Calls Tryz.prog 121 #[.agg #[.int .i64 f, .int .i64 k, .int .i64 i], .agg #[.int .i64 f', .int .i64 k', .int .i64 i']] w fun e w' => e = .returned (.int .i64 (Sp.ordN ⟨f, k, i⟩ ⟨f', k', i'⟩)) ∧ Below w.heap.size w w' := by
 go_enter Tryz.func121, Tryz.ntmps121
 go_upto_region 1 with fail
 refine wp_named (fun W => ∃ b0 b1, w.heap.size = b0 ∧ w.heap.size + 1 = b1 ∧ Blk W b0 [.int .i64 f, .int .i64 k, .int .i64 i] ∧ Blk W b1 [.int .i64 f', .int .i64 k', .int .i64 i'] ∧ Below w.heap.size w W) ⟨_, _, rfl, rfl, ?_, ?_, ?_⟩ ?_
 · exact (Blk.new _ _ _ _ (by first | rfl | simp)).alloc _
 · exact kbn
 · go_grown
 rintro W ⟨b0, b1, e0, e1, B0, B1, hB⟩
 rw [e1, e0]
 have G0 : w.heap.size ≤ b0 := by omega
 have n01 : b0 ≠ b1 := by omega
 have G1 : w.heap.size ≤ b1 := by omega
 have n10 : b1 ≠ b0 := by omega
 clear e0 e1
 have ⟨L0, C0, F0⟩ := B0
 have ⟨L1, C1, F1⟩ := B1
 go_region_held3 (fun w' => SX0 W w') (exact kp0)
   (first | (go_at_call 68; refine (compare_any _ _ _).mono ?_; rintro e w1 ⟨rfl, rfl⟩) | (go_at_call 67; refine (or_any _ _ _ [Sp.cmpI f f', Sp.cmpI k k', Sp.cmpI i i'] _ (by first | exact three_ints _ _ _ _ _ _ (by first | rfl | simp) | exact Ints.drew (three_ints _ _ _ _ _ _ (by first | rfl | simp))) (by omega) (by omega)).mono ?_; rintro e w2 ⟨rfl, rfl⟩))
 all_goals
   go_wp2_with fail
   go_ret
   refine ⟨rfl, Kept.below (X := []) hB hB.size (by simp) ?_⟩
   (exact kpt0)
set_option maxHeartbeats 1000000 in
theorem orderEdge_any (a b k c a' b' k' c' : Int) (w : World) :
   Calls Tryz.prog 124 #[.agg #[.int .i64 a, .int .i64 b, .int .i64 k, .int .i64 c], .agg #[.int .i64 a', .int .i64 b', .int .i64 k', .int .i64 c']] w fun e w' => e = .returned (.int .i64 (Sp.ordE ⟨a, b, k, c⟩ ⟨a', b', k', c'⟩)) ∧ Below w.heap.size w w' := by
 go_enter Tryz.func124, Tryz.ntmps124
 go_upto_region 1 with fail
 refine wp_named (fun W => ∃ b0 b1, w.heap.size = b0 ∧ w.heap.size + 1 = b1 ∧ Blk W b0 [.int .i64 a, .int .i64 b, .int .i64 k, .int .i64 c] ∧ Blk W b1 [.int .i64 a', .int .i64 b', .int .i64 k', .int .i64 c'] ∧ Below w.heap.size w W) ⟨_, _, rfl, rfl, ?_, ?_, ?_⟩ ?_
 · exact (Blk.new _ _ _ _ (by first | rfl | simp)).alloc _
 · exact kbn
 · go_grown
 rintro W ⟨b0, b1, e0, e1, B0, B1, hB⟩
 rw [e1, e0]
 have G0 : w.heap.size ≤ b0 := by omega
 have n01 : b0 ≠ b1 := by omega
 have G1 : w.heap.size ≤ b1 := by omega
 have n10 : b1 ≠ b0 := by omega
 clear e0 e1
 have ⟨L0, C0, F0⟩ := B0
 have ⟨L1, C1, F1⟩ := B1
 go_region_held3 (fun w' => SX0 W w') (exact kp0)
   (first | (go_at_call 68; refine (compare_any _ _ _).mono ?_; rintro e w1 ⟨rfl, rfl⟩) | (go_at_call 67; refine (or_any _ _ _ [Sp.cmpI a a', Sp.cmpI b b', Sp.cmpI k k', Sp.cmpI c c'] _ (by first | exact four_ints _ _ _ _ _ _ _ (by first | rfl | simp) | exact Ints.drew (four_ints _ _ _ _ _ _ _ (by first | rfl | simp))) (by omega) (by omega)).mono ?_; rintro e w2 ⟨rfl, rfl⟩))
 all_goals
   go_wp2_with fail
   go_ret
   refine ⟨rfl, Kept.below (X := []) hB hB.size (by simp) ?_⟩
   (exact kpt0)
set_option maxHeartbeats 1000000 in
theorem less_any (f k i f' k' i' : Int) (w : World) :
   Calls Tryz.prog 144 #[.agg #[.int .i64 f, .int .i64 k, .int .i64 i], .agg #[.int .i64 f', .int .i64 k', .int .i64 i']] w fun e w' => e = .returned (.bool (Sp.lessN ⟨f, k, i⟩ ⟨f', k', i'⟩)) ∧ Below w.heap.size w w' := by
 go_enter Tryz.func144, Tryz.ntmps144
 go_wp2
 all_goals (go_ret; refine ⟨ret_bool ?_, by go_grown⟩; unfold Sp.lessN; simp_all)
set_option maxHeartbeats 1000000 in
theorem lessEdge_any (a b k c a' b' k' c' : Int) (w : World) :
   Calls Tryz.prog 106 #[.agg #[.int .i64 a, .int .i64 b, .int .i64 k, .int .i64 c], .agg #[.int .i64 a', .int .i64 b', .int .i64 k', .int .i64 c']] w fun e w' => e = .returned (.bool (Sp.lessE ⟨a, b, k, c⟩ ⟨a', b', k', c'⟩)) ∧ Below w.heap.size w w' := by
 go_enter Tryz.func106, Tryz.ntmps106
 go_wp2
 all_goals (go_ret; refine ⟨ret_bool ?_, by go_grown⟩; unfold Sp.lessE; simp_all)
end Go.Proofs.YtooejoajojanjaaGreatDoor
namespace Go.Df
open Go.RowKit Sp
def gn (ns : List Nd) (i : Nat) : Nd := ns.getD i ⟨0, 0, 0⟩
def ge (es : List Ed) (i : Nat) : Ed := es.getD i ⟨0, 0, 0, 0⟩
theorem gn_lt {ns : List Nd} {i : Nat} (h : i < ns.length) : gn ns i = ns[i] := by simp [gn, h]
theorem ge_lt {es : List Ed} {i : Nat} (h : i < es.length) : ge es i = es[i] := by simp [ge, h]
def Nds (w : World) (A : Option Addr) (n : Nat) (ns : List Nd) : Prop :=
 ns.length = n ∧ (0 < n → ∃ b o, A = some ⟨b, o, none⟩ ∧ b < w.heap.size ∧ ∀ i, i < n → w.cell? ⟨b, o + i * 3, none⟩ = some (.int .i64 (gn ns i).f) ∧ w.cell? ⟨b, o + i * 3 + 1, none⟩ = some (.int .i64 (gn ns i).k) ∧ w.cell? ⟨b, o + i * 3 + 2, none⟩ = some (.int .i64 (gn ns i).i))
def Eds (w : World) (A : Option Addr) (n : Nat) (es : List Ed) : Prop :=
 es.length = n ∧ (0 < n → ∃ b o, A = some ⟨b, o, none⟩ ∧ b < w.heap.size ∧ ∀ i, i < n → w.cell? ⟨b, o + i * 4, none⟩ = some (.int .i64 (ge es i).a) ∧ w.cell? ⟨b, o + i * 4 + 1, none⟩ = some (.int .i64 (ge es i).b) ∧ w.cell? ⟨b, o + i * 4 + 2, none⟩ = some (.int .i64 (ge es i).k) ∧ w.cell? ⟨b, o + i * 4 + 3, none⟩ = some (.int .i64 (ge es i).c))
theorem Nds.later {w w' : World} {A : Option Addr} {n : Nat} {ns : List Nd} (h : Nds w A n ns) (hb : Below w.heap.size w w') : Nds w' A n ns :=
 ⟨h.1, fun hn => by
   obtain ⟨b, o, e, hl, hc⟩ := h.2 hn
   exact ⟨b, o, e, Nat.lt_of_lt_of_le hl hb.size, fun i hi => ⟨(hb.cell (p := ⟨b, _, none⟩) hl).trans (hc i hi).1, (hb.cell (p := ⟨b, _, none⟩) hl).trans (hc i hi).2.1, (hb.cell (p := ⟨b, _, none⟩) hl).trans (hc i hi).2.2⟩⟩⟩
theorem Eds.later {w w' : World} {A : Option Addr} {n : Nat} {es : List Ed} (h : Eds w A n es) (hb : Below w.heap.size w w') : Eds w' A n es :=
 ⟨h.1, fun hn => by
   obtain ⟨b, o, e, hl, hc⟩ := h.2 hn
   exact ⟨b, o, e, Nat.lt_of_lt_of_le hl hb.size, fun i hi => ⟨(hb.cell (p := ⟨b, _, none⟩) hl).trans (hc i hi).1, (hb.cell (p := ⟨b, _, none⟩) hl).trans (hc i hi).2.1, (hb.cell (p := ⟨b, _, none⟩) hl).trans (hc i hi).2.2.1, (hb.cell (p := ⟨b, _, none⟩) hl).trans (hc i hi).2.2.2⟩⟩⟩
theorem Kept.toBelow {w w' : World} (h : Kept [] w w') : Below w.heap.size w w' := ⟨h.os, h.tape, h.output, h.size, fun k hk => h.block k hk (by simp)⟩
theorem Nds.kept {w w' : World} {A : Option Addr} {n : Nat} {ns : List Nd} (h : Nds w A n ns) (hk : Kept [] w w') : Nds w' A n ns := h.later hk.toBelow
theorem Eds.kept {w w' : World} {A : Option Addr} {n : Nat} {es : List Ed} (h : Eds w A n es) (hk : Kept [] w w') : Eds w' A n es := h.later hk.toBelow
structure Sup (w : World) (A1 : Option Addr) (n1 c1 : Nat) (A2 : Option Addr) (n2 c2 : Nat) (ns : List Nd) (es : List Ed) : Prop where
 nd : Nds w A1 n1 ns
 ed : Eds w A2 n2 es
 b1 : n1 ≤ c1 ∧ c1 ≤ 9223372036854775807
 b2 : n2 ≤ c2 ∧ c2 ≤ 9223372036854775807
theorem Sup.later {w w' : World} {A1 A2 : Option Addr} {n1 c1 n2 c2 : Nat} {ns : List Nd} {es : List Ed} (h : Sup w A1 n1 c1 A2 n2 c2 ns es) (hb : Below w.heap.size w w') : Sup w' A1 n1 c1 A2 n2 c2 ns es := ⟨h.nd.later hb, h.ed.later hb, h.b1, h.b2⟩
theorem Sup.kept {w w' : World} {A1 A2 : Option Addr} {n1 c1 n2 c2 : Nat} {ns : List Nd} {es : List Ed} (h : Sup w A1 n1 c1 A2 n2 c2 ns es) (hk : Kept [] w w') : Sup w' A1 n1 c1 A2 n2 c2 ns es := h.later hk.toBelow
namespace Sp
def kindAt (ns : List Nd) (f k : Int) : Int := match ns.findIdx? (fun n => n.f == f && n.k == k) with | some i => (i : Int) | none => -1
theorem kind_hit {ns : List Nd} {f k : Int} {i : Nat} (h : ∀ j, j < i → ((gn ns j).f == f && (gn ns j).k == k) = false) (hi : i < ns.length) (e : ((gn ns i).f == f && (gn ns i).k == k) = true) : kindAt ns f k = i := by
 unfold kindAt
 have : ns.findIdx? (fun n => n.f == f && n.k == k) = some i := by
   rw [List.findIdx?_eq_some_iff_getElem]
   refine ⟨hi, by rw [gn_lt hi] at e; exact e, fun j hj => ?_⟩
   have := h j hj
   rw [gn_lt (by omega)] at this
   simp [this]
 rw [this]
theorem kind_miss {ns : List Nd} {f k : Int} (h : ∀ j, j < ns.length → ((gn ns j).f == f && (gn ns j).k == k) = false) : kindAt ns f k = -1 := by
 unfold kindAt
 have : ns.findIdx? (fun n => n.f == f && n.k == k) = none := by
   rw [List.findIdx?_eq_none_iff]
   intro x hx
   obtain ⟨j, hj, rfl⟩ := List.getElem_of_mem hx
   have := h j hj
   rwa [gn_lt hj] at this
 rw [this]
end Sp
end Go.Df
namespace Go.Proofs.YtooejoajojanjaaGreatDoor
open Go.RowKit Go.Df
attribute [local go_sem ↓] Go.wp_at_zero Go.wp_at_succ
set_option maxHeartbeats 1000000 in
theorem kind_any (A1 A2 : Option Addr) (n1 c1 n2 c2 : Nat) (mn f k : Int) (ns : List Sp.Nd) (w : World) (hn : Nds w A1 n1 ns) (hs : n1 ≤ 1000000) :
   Calls Tryz.prog 143 #[.agg #[.slice A1 n1 c1, .slice A2 n2 c2, .int .i64 mn], .int .i64 f, .int .i64 k] w fun e w' => e = .returned (.int .i64 (Sp.kindAt ns f k)) ∧ Below w.heap.size w w' := by
 have HN := Lib.hid hn
 have HL := Lib.hid hn.1
 clear hn
 go_enter Tryz.func143, Tryz.ntmps143
 go_upto_region 1 with fail
 refine wp_named (fun W => ∃ b0, w.heap.size = b0 ∧ Blk W b0 [.slice A1 n1 c1, .slice A2 n2 c2, .int .i64 mn] ∧ Below w.heap.size w W) ⟨_, rfl, ?_, ?_⟩ ?_
 · exact kbn
 · go_grown
 rintro W ⟨b0, e0, B0, hB⟩
 rw [e0]
 have G0 : w.heap.size ≤ b0 := by omega
 clear e0
 have ⟨L0, C0, F0⟩ := B0
 go_wp2_with fail
 go_loop [7] (fun i => ∃ j : Nat, j ≤ n1 ∧ i = .int .i64 j ∧ Hid (∀ x, x < j → ((gn ns x).f == f && (gn ns x).k == k) = false)) (fun i => n1 - (intOf i).toNat)
 case atStart => exact ⟨0, Nat.zero_le _, rfl, Lib.hid (fun j hj => absurd hj (by omega))⟩
 case round =>
   obtain ⟨j, hj, rfl, hno⟩ := hrel
   by_cases hlt : j < n1
   · obtain ⟨b, o, rfl, hl, hc⟩ := HN.out.2 (by omega)
     obtain ⟨h1, h2, h3⟩ := hc j hlt
     have hW : Hid (b < w.heap.size) := Lib.hid hl
     have g1 : W.cell? ⟨b, o + j * 3, none⟩ = some (.int .i64 (gn ns j).f) := (hB.cell (p := ⟨b, _, none⟩) hl).trans h1
     have g2 : W.cell? ⟨b, o + j * 3 + 1, none⟩ = some (.int .i64 (gn ns j).k) := (hB.cell (p := ⟨b, _, none⟩) hl).trans h2
     clear hc h1 h2 h3 hl
     by_cases e1 : (gn ns j).f = f
     · have e1' : ((gn ns j).f == f) = true := by simpa using e1
       by_cases e2 : (gn ns j).k = k
       · have e2' : ((gn ns j).k == k) = true := by simpa using e2
         have hh : Hid (Sp.kindAt ns f k = j) := Lib.hid (Sp.kind_hit hno.out (by rw [HL.out]; exact hlt) (by simp [e1', e2']))
         clear e1 e2
         go_wp2_with fail
         go_ret
         exact ⟨ret_int hh.out.symm, hB⟩
       · have e2' : ((gn ns j).k == k) = false := by simpa using e2
         have hno' : Hid (∀ x, x < j + 1 → ((gn ns x).f == f && (gn ns x).k == k) = false) := fun x hx => by
           rcases Nat.lt_or_ge x j with h9 | h9
           · exact hno.out x h9
           · obtain rfl : x = j := by omega
             rw [e2', Bool.and_false]
         clear e1 e2
         go_wp2_with fail
         exact ⟨⟨j + 1, by omega, by go_num, hno'⟩, by simp [intOf]; omega⟩
     · have e1' : ((gn ns j).f == f) = false := by simpa using e1
       have hno' : Hid (∀ x, x < j + 1 → ((gn ns x).f == f && (gn ns x).k == k) = false) := fun x hx => by
         rcases Nat.lt_or_ge x j with h9 | h9
         · exact hno.out x h9
         · obtain rfl : x = j := by omega
           rw [e1', Bool.false_and]
       clear e1
       go_wp2_with fail
       exact ⟨⟨j + 1, by omega, by go_num, hno'⟩, by simp [intOf]; omega⟩
   · go_wp2_with fail
     go_ret
     exact ⟨ret_int (Sp.kind_miss (fun x hx => hno.out x (by rw [HL.out] at hx; omega))).symm, hB⟩
end Go.Proofs.YtooejoajojanjaaGreatDoor
