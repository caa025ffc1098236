/- Pairs in a row of one's own. -/
import Derived.Test.YtmbihjlflcjlnaaGreatKl
import Derived.Test.YtmbihjlflcjlnaaGreatZf
namespace Go.Df
open Go.RowKit
theorem new2T (w : World) (b : Nat) (u v : Value) (t : TypeId) (hb : b = w.heap.size) : Rd (w.alloc (.cells #[u, v] t)) 2 (some ⟨b, 0, none⟩) 1 [u, v] := by
  subst hb
  refine ⟨rfl, fun _ => ⟨_, _, rfl, by simp, fun j _ => ?_⟩⟩
  rw [World.cell?_alloc_new, Nat.zero_add]; simp
namespace If
/-- The cells of a list of pairs. -/
def prcells (l : List Pr) : List Value := l.flatMap fun x => [.int .i64 x.i, .int .i64 x.o]
theorem prcells_snoc (l : List Pr) (x : Pr) : prcells l ++ [.int .i64 x.i, .int .i64 x.o] = prcells (l ++ [x]) := by simp [prcells]
theorem prcells_at : ∀ (l : List Pr) {i : Nat} (_ : i < l.length), (prcells l)[i * 2]? = some (.int .i64 (gp l i).i) ∧ (prcells l)[i * 2 + 1]? = some (.int .i64 (gp l i).o)
  | x :: l, 0, _ => by simp [prcells, gp]
  | x :: l, i + 1, h => by
    have h1 := prcells_at l (i := i) (by simpa using h)
    have e : prcells (x :: l) = [.int .i64 x.i, .int .i64 x.o] ++ prcells l := rfl
    have e2 : gp (x :: l) (i + 1) = gp l i := by simp [gp]
    rw [e, e2]
    refine ⟨?_, ?_⟩
    · rw [List.getElem?_append_right (by simp; omega), show (i + 1) * 2 - [Value.int .i64 x.i, .int .i64 x.o].length = i * 2 by simp; omega]; exact h1.1
    · rw [List.getElem?_append_right (by simp; omega), show (i + 1) * 2 + 1 - [Value.int .i64 x.i, .int .i64 x.o].length = i * 2 + 1 by simp; omega]; exact h1.2
theorem Prs.own {w : World} {base : Nat} {e : TypeId} {A : Option Addr} {n c : Nat} {l : List Pr} (h : w.ownsRow base e 2 (.slice A n c) n (prcells l)) (hl : l.length = n) : Prs w A n l ∧ n ≤ c := by
  by_cases h0 : 0 < n
  · obtain ⟨g, c', hv, hb, hg, hc, -, hcell, -⟩ := own_cellsT h h0
    injection hv with e1 e2 e3
    subst e1
    subst e3
    exact ⟨⟨hl, fun _ => ⟨g, 0, rfl, hg, fun i hi => by
      obtain ⟨h1, h2⟩ := prcells_at l (i := i) (by omega)
      rw [Nat.zero_add, hcell _ (by omega), hcell _ (by omega)]
      exact ⟨h1, h2⟩⟩⟩, hc⟩
  · exact ⟨⟨hl, fun h => absurd h h0⟩, by omega⟩
end If
end Go.Df
namespace Go.Proofs.YtmbihjlflcjlnaaGreat
open Go.RowKit Go.Df Go.Df.If
theorem pairi_info : (Tryz.prog.info? 76).map (fun i => (i.zero, i.size, i.bytes)) = some (some (.agg #[.int .i64 0, .int .i64 0]), 2, 16) := by kernel_rfl
end Go.Proofs.YtmbihjlflcjlnaaGreat
