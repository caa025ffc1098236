/- Problems with values, in plain words; the contracts of the checks of transformers and values. -/
import Derived.Test.YtmjebjjhfoncfaaDoorSd
namespace Go.Df
open Go.RowKit
namespace Sp
/-- A pair with its transformer: in, out, kind, B, C. -/
structure Xp where
  i : Int
  o : Int
  k : Int
  b : Int
  c : Int
deriving DecidableEq
/-- A seed: node, fact, kind, number. -/
structure Vs where
  n : Int
  f : Int
  k : Int
  v : Int
deriving DecidableEq
/-- The error of a transformer, of a value. -/
def xerr (k b c : Int) : Int := if k < 0 ∨ 4 < k then 12 else if (b ≠ 0 ∧ k ≠ 2 ∧ k ≠ 3) ∨ (c ≠ 0 ∧ k ≠ 1 ∧ k ≠ 3) then 1 else 0
def verr (k n : Int) : Int := if k < 0 ∨ 2 < k then 12 else if n ≠ 0 ∧ k ≠ 1 then 1 else 0
def gx (l : List Xp) (i : Nat) : Xp := l.getD i ⟨0, 0, 0, 0, 0⟩
def gs (l : List Vs) (i : Nat) : Vs := l.getD i ⟨0, 0, 0, 0⟩
theorem gx_lt {l : List Xp} {i : Nat} (h : i < l.length) : gx l i = l[i] := by simp [gx, h]
theorem gs_lt {l : List Vs} {i : Nat} (h : i < l.length) : gs l i = l[i] := by simp [gs, h]
def lessP (a b : Xp) : Bool := if a.i ≠ b.i then decide (a.i < b.i) else decide (a.o < b.o)
/-- The error of a pair, of the pairs of an edge. -/
def pairErr (F : Int) (l : List Xp) (j : Nat) : Int :=
  if (gx l j).i < 0 ∨ F ≤ (gx l j).i ∨ (gx l j).o < 0 ∨ F ≤ (gx l j).o then 4
  else if 0 < j ∧ lessP (gx l (j - 1)) (gx l j) = false then 13 else xerr (gx l j).k (gx l j).b (gx l j).c
def pairsErr (F : Int) (l : List Xp) : Int :=
  if 8192 < l.length then 3 else if fe (pairErr F l) 0 l.length ≠ 0 then fe (pairErr F l) 0 l.length else if l.length = 0 ∨ gx l 0 ≠ ⟨0, 0, 2, 0, 0⟩ then 1 else 0
theorem pairs_hit {F : Int} {l : List Xp} {e : Int} {j : Nat} (h1 : l.length ≤ 8192) (h : ∀ x, x < j → pairErr F l x = 0) (hj : j < l.length) (he : pairErr F l j = e) (h0 : e ≠ 0) : pairsErr F l = e := by
  unfold pairsErr
  rw [if_neg (by omega), fe_hit h hj he h0, if_pos h0]
theorem pairs_end {F : Int} {l : List Xp} (h1 : l.length ≤ 8192) (h : ∀ x, x < l.length → pairErr F l x = 0) : pairsErr F l = if l.length = 0 ∨ gx l 0 ≠ ⟨0, 0, 2, 0, 0⟩ then 1 else 0 := by
  unfold pairsErr
  rw [if_neg (by omega), fe_ok l.length 0 (fun i _ hi => h i (by omega)), if_neg (by simp)]
end Sp
/-- A slice of pairs in memory. -/
def Xps (w : World) (A : Option Addr) (n : Nat) (l : List Sp.Xp) : Prop :=
  l.length = n ∧ (0 < n → ∃ b o, A = some ⟨b, o, none⟩ ∧ b < w.heap.size ∧ ∀ i, i < n → w.cell? ⟨b, o + i * 5, none⟩ = some (.int .i64 (Sp.gx l i).i) ∧ w.cell? ⟨b, o + i * 5 + 1, none⟩ = some (.int .i64 (Sp.gx l i).o) ∧ w.cell? ⟨b, o + i * 5 + 2, none⟩ = some (.int .i64 (Sp.gx l i).k) ∧ w.cell? ⟨b, o + i * 5 + 3, none⟩ = some (.int .i64 (Sp.gx l i).b) ∧ w.cell? ⟨b, o + i * 5 + 4, none⟩ = some (.int .i64 (Sp.gx l i).c))
theorem Xps.later {w w' : World} {A : Option Addr} {n : Nat} {l : List Sp.Xp} (h : Xps w A n l) (hb : Below w.heap.size w w') : Xps w' A n l :=
  ⟨h.1, fun hn => by
    obtain ⟨b, o, e, hl, hc⟩ := h.2 hn
    exact ⟨b, o, e, Nat.lt_of_lt_of_le hl hb.size, fun i hi => ⟨(hb.cell (p := ⟨b, _, none⟩) hl).trans (hc i hi).1, (hb.cell (p := ⟨b, _, none⟩) hl).trans (hc i hi).2.1, (hb.cell (p := ⟨b, _, none⟩) hl).trans (hc i hi).2.2.1, (hb.cell (p := ⟨b, _, none⟩) hl).trans (hc i hi).2.2.2.1, (hb.cell (p := ⟨b, _, none⟩) hl).trans (hc i hi).2.2.2.2⟩⟩⟩
end Go.Df
namespace Go.Proofs.YtmjebjjhfoncfaaDoor
open Go.RowKit Go.Df
attribute [local go_sem ↓] Go.wp_at_zero Go.wp_at_succ

set_option maxHeartbeats 1000000 in
theorem xcheck_any (k b c : Int) (w : World) :
    Calls Tryd.prog 64 #[.agg #[.int .i64 k, .int .i64 b, .int .i64 c]] w fun e w' => e = .returned (.int .i64 (Sp.xerr k b c)) ∧ Below w.heap.size w w' := by
  go_enter Tryd.func64, Tryd.ntmps64
  go_wp2
  all_goals (go_returns; refine ⟨ret_int ?_, by go_grown⟩; unfold Sp.xerr; (repeat' split) <;> first | rfl | omega | (exfalso; omega) | (simp_all; done) | (simp_all; omega) | (exfalso; simp_all; omega))

set_option maxHeartbeats 1000000 in
theorem rxcheck_any (k b c : Int) (w : World) :
    Calls Tryd.prog 53 #[.agg #[.int .i64 k, .int .i64 b, .int .i64 c]] w fun e w' => e = .returned (.int .i64 (Sp.xerr k b c)) ∧ Below w.heap.size w w' := by
  go_enter Tryd.func53, Tryd.ntmps53
  go_wp2
  all_goals (go_returns; refine ⟨ret_int ?_, by go_grown⟩; unfold Sp.xerr; (repeat' split) <;> first | rfl | omega | (exfalso; omega) | (simp_all; done) | (simp_all; omega) | (exfalso; simp_all; omega))

set_option maxHeartbeats 1000000 in
theorem vcheckv_any (k n : Int) (w : World) :
    Calls Tryd.prog 40 #[.agg #[.int .i64 k, .int .i64 n]] w fun e w' => e = .returned (.int .i64 (Sp.verr k n)) ∧ Below w.heap.size w w' := by
  go_enter Tryd.func40, Tryd.ntmps40
  go_wp2
  all_goals (go_returns; refine ⟨ret_int ?_, by go_grown⟩; unfold Sp.verr; (repeat' split) <;> first | rfl | omega | (exfalso; omega) | (simp_all; done) | (simp_all; omega) | (exfalso; simp_all; omega))

set_option maxHeartbeats 1000000 in
theorem rvcheckv_any (k n : Int) (w : World) :
    Calls Tryd.prog 31 #[.agg #[.int .i64 k, .int .i64 n]] w fun e w' => e = .returned (.int .i64 (Sp.verr k n)) ∧ Below w.heap.size w w' := by
  go_enter Tryd.func31, Tryd.ntmps31
  go_wp2
  all_goals (go_returns; refine ⟨ret_int ?_, by go_grown⟩; unfold Sp.verr; (repeat' split) <;> first | rfl | omega | (exfalso; omega) | (simp_all; done) | (simp_all; omega) | (exfalso; simp_all; omega))
end Go.Proofs.YtmjebjjhfoncfaaDoor
