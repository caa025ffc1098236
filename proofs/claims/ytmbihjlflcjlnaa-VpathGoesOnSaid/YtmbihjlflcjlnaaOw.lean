/- The edges that a path may take. No program in sight. -/
import Derived.Test.YtmbihjlflcjlnaaVp
namespace Go.Df.Sp
/-- The edges from x among the first j. -/
def outS (es : List Ed) (x : Int) : Nat → List Int
  | 0 => []
  | j + 1 => if (ge es j).a = x then outS es x j ++ [(j : Int)] else outS es x j
theorem outS_len (es : List Ed) (x : Int) : ∀ j, (outS es x j).length ≤ j
  | 0 => Nat.le_refl _
  | j + 1 => by
    unfold outS
    have := outS_len es x j
    split
    · simp; omega
    · omega
/-- The edges of l, among the first j, that a path may take. -/
def flt (es : List Ed) (a : Int) (cs l : List Int) : Nat → List Int
  | 0 => []
  | j + 1 => if (stepS es a cs (gi l j)).1 = 0 then flt es a cs l j ++ [gi l j] else flt es a cs l j
theorem flt_len (es : List Ed) (a : Int) (cs l : List Int) : ∀ j, (flt es a cs l j).length ≤ j
  | 0 => Nat.le_refl _
  | j + 1 => by
    unfold flt
    have := flt_len es a cs l j
    split
    · simp; omega
    · omega
def nextS (es : List Ed) (a : Int) (cs : List Int) : List Int := flt es a cs (outS es a es.length) (outS es a es.length).length
/-- What Next answers. -/
def nxtS (ns : List Nd) (es : List Ed) (m fr : Int) (path : List Int) : Int × List Int :=
  if (followS ns es m fr path).1 ≠ 0 then ((followS ns es m fr path).1, []) else if path.length = 4096 then (3, []) else (0, nextS es (followS ns es m fr path).2.1 (followS ns es m fr path).2.2)
end Go.Df.Sp
