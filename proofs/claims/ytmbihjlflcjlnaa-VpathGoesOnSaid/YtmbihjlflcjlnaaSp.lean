/- Supergraphs in plain words. No program in sight. -/
import Derived.Test.YtmbihjlflcjlnaaLa
namespace Go.Df.Sp
/-- A node: function, kind, instruction. -/
structure Nd where
  f : Int
  k : Int
  i : Int
deriving DecidableEq
/-- An edge: from, to, kind, call. -/
structure Ed where
  a : Int
  b : Int
  k : Int
  c : Int
deriving DecidableEq
def Nd.cs (n : Nd) : List Value := [.int .i64 n.f, .int .i64 n.k, .int .i64 n.i]
def Ed.cs (e : Ed) : List Value := [.int .i64 e.a, .int .i64 e.b, .int .i64 e.k, .int .i64 e.c]
def cmpI (x y : Int) : Int := if x < y then -1 else if y < x then 1 else 0
def orL : List Int → Int
  | [] => 0
  | x :: l => if x = 0 then orL l else x
def lessN (a b : Nd) : Bool := if a.f ≠ b.f then decide (a.f < b.f) else if a.k ≠ b.k then decide (a.k < b.k) else decide (a.i < b.i)
def lessE (a b : Ed) : Bool := if a.a ≠ b.a then decide (a.a < b.a) else if a.b ≠ b.b then decide (a.b < b.b) else if a.k ≠ b.k then decide (a.k < b.k) else decide (a.c < b.c)
def ordN (a b : Nd) : Int := orL [cmpI a.f b.f, cmpI a.k b.k, cmpI a.i b.i]
def ordE (a b : Ed) : Int := orL [cmpI a.a b.a, cmpI a.b b.b, cmpI a.k b.k, cmpI a.c b.c]
theorem or_cmp (x y : Int) (l : List Int) : decide (0 ≤ orL (cmpI x y :: l)) = if x ≠ y then !decide (x < y) else decide (0 ≤ orL l) := by
  rw [orL]
  unfold cmpI
  by_cases h1 : x < y
  · simp [h1, show x ≠ y by omega]
  · by_cases h2 : y < x
    · simp [h1, h2, show x ≠ y by omega]
    · simp [show x = y by omega]
theorem or_last (x y : Int) : decide (0 ≤ orL [cmpI x y]) = !decide (x < y) := by
  rw [or_cmp]
  split
  · rfl
  · rename_i h
    have : ¬ x < y := by omega
    simp [orL, this]
theorem ordN_ge (a b : Nd) : decide (0 ≤ ordN a b) = !lessN a b := by
  unfold ordN lessN
  rw [or_cmp, or_cmp, or_last]
  split
  · rfl
  · split <;> rfl
theorem ordE_ge (a b : Ed) : decide (0 ≤ ordE a b) = !lessE a b := by
  unfold ordE lessE
  rw [or_cmp, or_cmp, or_cmp, or_last]
  split
  · rfl
  · split
    · rfl
    · split <;> rfl
end Go.Df.Sp
