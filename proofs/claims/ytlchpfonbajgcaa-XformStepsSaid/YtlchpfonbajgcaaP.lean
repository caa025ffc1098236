/- The plain functions of package xform and of its reference, on integers. -/
import Derived.IntWalk
namespace Go.Proofs.Ytlchpfonbajgcaa.Xf
open Go.RowKit
structure X where
  k : Int
  b : Int
  c : Int
structure V where
  k : Int
  n : Int
instance : DecidableEq X := fun x y =>
  if h : x.k = y.k ∧ x.b = y.b ∧ x.c = y.c then isTrue (by cases x; cases y; simp_all) else isFalse (by rintro rfl; exact h ⟨rfl, rfl, rfl⟩)
instance : DecidableEq V := fun v w =>
  if h : v.k = w.k ∧ v.n = w.n then isTrue (by cases v; cases w; simp_all) else isFalse (by rintro rfl; exact h ⟨rfl, rfl⟩)
def check (x : X) : Int :=
  if x.k = 3 then 0 else if x.k = 0 ∨ x.k = 4 then (if x.c ≠ 0 then 1 else if x.b ≠ 0 then 1 else 0)
  else if x.k = 1 then (if x.b ≠ 0 then 1 else 0) else if x.k = 2 then (if x.c ≠ 0 then 1 else 0) else 12
def rcheck (x : X) : Int :=
  if x.k < 0 ∨ x.k > 4 then 12 else
  if (x.b ≠ 0 ∧ x.k ≠ 2 ∧ x.k ≠ 3) ∨ (x.c ≠ 0 ∧ x.k ≠ 1 ∧ x.k ≠ 3) then 1 else 0
def checkV (v : V) : Int := if v.k = 0 ∨ v.k = 2 then (if v.n ≠ 0 then 1 else 0) else if v.k = 1 then 0 else 12
def rcheckV (v : V) : Int := if v.k < 0 ∨ v.k > 2 then 12 else if v.n ≠ 0 ∧ v.k ≠ 1 then 1 else 0
def sum (v : V) (b : Int) : V := if v.k = 1 then ⟨1, wrap64 (v.n + b)⟩ else v
def meetV (v w : V) : V := if v = w ∨ w.k = 0 then v else if v.k = 0 then w else ⟨2, 0⟩
def rmeetV (v w : V) : V := if v.k = 0 then w else if w.k = 0 ∨ v = w then v else ⟨2, 0⟩
def apply (x : X) (v : V) : V :=
  if v.k = 0 then ⟨0, 0⟩ else if x.k = 0 then ⟨0, 0⟩ else if x.k = 1 then ⟨1, x.c⟩ else if x.k = 2 then sum v x.b
  else if x.k = 3 then meetV (sum v x.b) ⟨1, x.c⟩ else ⟨2, 0⟩
def rapply (x : X) (v : V) : V :=
  if v.k = 0 then v else if x.k = 0 then ⟨0, 0⟩ else if x.k = 1 then ⟨1, x.c⟩ else if x.k = 2 then sum v x.b
  else if x.k = 3 then rmeetV (sum v x.b) ⟨1, x.c⟩ else ⟨2, 0⟩
def shifted (x : X) (n : Int) : X :=
  if x.k = 1 then ⟨1, 0, wrap64 (x.c + n)⟩ else if x.k = 2 then ⟨2, wrap64 (x.b + n), 0⟩
  else if x.k = 3 then ⟨3, wrap64 (x.b + n), wrap64 (x.c + n)⟩ else ⟨4, 0, 0⟩
def compose (x y : X) : X :=
  if x.k = 0 ∨ y.k = 0 then ⟨0, 0, 0⟩ else if y.k = 1 then y else if y.k = 2 then shifted x y.b
  else if y.k = 3 then
    (let f := shifted x y.b
     if f.k = 2 then ⟨3, f.b, y.c⟩ else if f.k = 1 ∨ f.k = 3 then (if f.c = y.c then f else ⟨4, 0, 0⟩) else ⟨4, 0, 0⟩)
  else ⟨4, 0, 0⟩
def rcompose (x y : X) : X :=
  if x.k = 0 ∨ y.k = 0 then ⟨0, 0, 0⟩ else if y.k = 1 ∨ y.k = 4 then y else if x.k = 4 then x
  else if x.k = 1 then (let v := rapply y ⟨1, x.c⟩; if v.k = 1 then ⟨1, 0, v.n⟩ else ⟨4, 0, 0⟩)
  else if x.k = 2 then ⟨y.k, wrap64 (x.b + y.b), y.c⟩
  else (let v := rapply y ⟨1, x.c⟩; if v.k = 1 then ⟨3, wrap64 (x.b + y.b), v.n⟩ else ⟨4, 0, 0⟩)
/-- What the loop of Meet comes to, for kinds 1, 2, 3. -/
def meet (x y : X) : X :=
  if x = y ∨ y.k = 0 then x else if x.k = 0 then y else if x.k = 4 ∨ y.k = 4 then ⟨4, 0, 0⟩
  else if x.k ≠ 1 ∧ y.k ≠ 1 ∧ y.b ≠ x.b then ⟨4, 0, 0⟩
  else if x.k ≠ 2 ∧ y.k ≠ 2 ∧ y.c ≠ x.c then ⟨4, 0, 0⟩
  else ⟨3, if y.k ≠ 1 then y.b else if x.k ≠ 1 then x.b else 0, if y.k ≠ 2 then y.c else if x.k ≠ 2 then x.c else 0⟩
def rmeet1 (x y : X) : X :=
  if x.k = 1 ∧ y.k = 2 then ⟨3, y.b, x.c⟩ else if x.k = 1 ∧ y.k = 3 ∧ x.c = y.c then y
  else if x.k = 2 ∧ y.k = 3 ∧ x.b = y.b then y else ⟨4, 0, 0⟩
def rmeet (x y : X) : X :=
  if x.k = 0 then y else if y.k = 0 ∨ x = y then x else if x.k > y.k then rmeet1 y x else rmeet1 x y
def below (v w : V) : Bool := w.k = 0 ∨ v.k = 2 ∨ v = w
def rbelow (v w : V) : Bool := v = w ∨ v.k = 2 ∨ w.k = 0
def steps (x : X) : Int := if x.k = 0 then 3 else if x.k = 1 ∨ x.k = 2 then 2 else if x.k = 3 then 1 else 0
theorem rmeet_swap {x y : X} (h : y.k < x.k) (hx : ¬ x.k = 0) (hy : ¬ y.k = 0) : rmeet y x = rmeet x y := by
  have e1 : ¬ y = x := by rintro rfl; omega
  have e2 : ¬ x = y := fun e => e1 e.symm
  have e3 : ¬ x.k < y.k := by omega
  simp [rmeet, hx, hy, e1, e2, e3, h]
end Go.Proofs.Ytlchpfonbajgcaa.Xf
