/- Valid paths in plain words. -/
import Derived.Test.YtmbihjlflcjlnaaSm
namespace Go.Df
open Go.RowKit
namespace Sp
/-- The error of a supergraph and a node of it. -/
def chkErr (ns : List Nd) (es : List Ed) (m fr : Int) : Int := if superErr ns es m ≠ 0 then superErr ns es m else if fr < 0 ∨ (ns.length : Int) ≤ fr then 4 else 0
/-- One edge further: an error, or 0 with the node and the pending calls (the last one first). -/
def stepS (es : List Ed) (at_ : Int) (cs : List Int) (k : Int) : Int × Int × List Int :=
  if k < 0 ∨ (es.length : Int) ≤ k then (4, 0, [])
  else if (ge es k.toNat).a ≠ at_ then (16, 0, [])
  else if (ge es k.toNat).k = 3 ∨ (ge es k.toNat).k = 4 then (if cs = [] ∨ gi cs 0 ≠ (ge es k.toNat).c then (20, 0, []) else (0, (ge es k.toNat).b, cs.tail))
  else if (ge es k.toNat).k = 2 then (0, (ge es k.toNat).b, at_ :: cs) else (0, (ge es k.toNat).b, cs)
/-- All edges of a path. -/
def runS (es : List Ed) : Int → List Int → List Int → Int × Int × List Int
  | a, cs, [] => (0, a, cs)
  | a, cs, k :: r => if (stepS es a cs k).1 ≠ 0 then ((stepS es a cs k).1, 0, []) else runS es (stepS es a cs k).2.1 (stepS es a cs k).2.2 r
def followS (ns : List Nd) (es : List Ed) (m fr : Int) (path : List Int) : Int × Int × List Int :=
  if chkErr ns es m fr ≠ 0 then (chkErr ns es m fr, 0, []) else if 4096 < path.length then (3, 0, []) else runS es fr [] path
theorem stepS_err {es : List Ed} {a k : Int} {cs : List Int} (h : (stepS es a cs k).1 ≠ 0) : stepS es a cs k = ((stepS es a cs k).1, 0, []) := by
  unfold stepS at *
  (repeat' split) <;> simp_all
theorem drop_gi {l : List Int} {j : Nat} (h : j < l.length) : l.drop j = gi l j :: l.drop (j + 1) := by
  rw [gi_lt h]
  exact List.drop_eq_getElem_cons h
end Sp
theorem BlkN.drewN {w : World} {b n : Nat} (h : BlkN w b n) (q : Nat) : BlkN (w.drewN q) b n := h
/-- The world at a return is named. -/
theorem post_named {P : Program} {f : Func} {Q : Ending → World → Prop} {e : Exit} {a : Act} {w : World} (S : World → Prop) (h0 : S w) (h : ∀ X, S X → bodyPost P f Q e a X) : bodyPost P f Q e a w := h w h0
/-- A list of pending calls in memory. -/
def Pend (w : World) : Option Addr → List Int → Prop
  | p, [] => p = none
  | p, c :: r => ∃ b q, p = some ⟨b, 0, none⟩ ∧ Blk w b [.int .i64 c, .pointer q] ∧ Pend w q r
theorem Pend.kept {w w' : World} (hk : Kept [] w w') : ∀ (cs : List Int) {p : Option Addr}, Pend w p cs → Pend w' p cs
  | [], _, h => h
  | _ :: r, _, ⟨b, q, e, hb, h⟩ => ⟨b, q, e, hk.blk (by simp) hb, Pend.kept hk r h⟩
theorem Pend.later {w w' : World} {cs : List Int} {p : Option Addr} (h : Pend w p cs) (hb : Below w.heap.size w w') : Pend w' p cs := Pend.kept ((Kept.refl _ _).call hb) cs h
end Go.Df
