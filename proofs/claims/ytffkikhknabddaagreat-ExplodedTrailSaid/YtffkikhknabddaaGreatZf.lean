/- A pack of texts: Jcz Jdz. -/
import Derived.Test.YtffkikhknabddaaGreatMc
import Derived.Test.YtffkikhknabddaaGreatMb
import Derived.Test.YtffkikhknabddaaGreatSj
import Derived.Maps.OwnOps
import Derived.WalkSpells
import Derived.Test.YtffkikhknabddaaGreatZi
/- Numbers as integers. (Printed by genZ.py out of Jb.) -/
namespace Go.Df
open Go.RowKit
def nint (x : Nat) : Value := .int .i64 (x : Int)
def ofNats (l : List Nat) : List Int := l.map fun (x : Nat) => (x : Int)
theorem nints (l : List Nat) : l.map nint = (ofNats l).map (Value.int .i64) := by simp [nint, ofNats]
theorem gi_ofNats {l : List Nat} {i : Nat} (h : i < l.length) : gi (ofNats l) i = (l[i] : Int) := by rw [gi_lt (by simpa [ofNats] using h)]; simp [ofNats]
theorem ofNats_len (l : List Nat) : (ofNats l).length = l.length := by simp [ofNats]
end Go.Df
/- Flow functions in memory; the contract of the solver's from. -/
namespace Go.Df
open Go.RowKit
namespace If
/-- A slice of pairs; of flow functions; of seeds. -/
def Prs (w : World) (A : Option Addr) (n : Nat) (l : List Pr) : Prop :=
  l.length = n ∧ (0 < n → ∃ b o, A = some ⟨b, o, none⟩ ∧ b < w.heap.size ∧ ∀ i, i < n → w.cell? ⟨b, o + i * 2, none⟩ = some (.int .i64 (gp l i).i) ∧ w.cell? ⟨b, o + i * 2 + 1, none⟩ = some (.int .i64 (gp l i).o))
theorem Prs.later {w w' : World} {A : Option Addr} {n : Nat} {l : List Pr} (h : Prs w A n l) (hb : Below w.heap.size w w') : Prs w' A n l :=
  ⟨h.1, fun hn => by
    obtain ⟨b, o, e, hl, hc⟩ := h.2 hn
    exact ⟨b, o, e, Nat.lt_of_lt_of_le hl hb.size, fun i hi => ⟨(hb.cell (p := ⟨b, _, none⟩) hl).trans (hc i hi).1, (hb.cell (p := ⟨b, _, none⟩) hl).trans (hc i hi).2⟩⟩⟩
def Sds (w : World) (A : Option Addr) (n : Nat) (l : List Sd) : Prop :=
  l.length = n ∧ (0 < n → ∃ b o, A = some ⟨b, o, none⟩ ∧ b < w.heap.size ∧ ∀ i, i < n → w.cell? ⟨b, o + i * 2, none⟩ = some (.int .i64 (gd l i).n) ∧ w.cell? ⟨b, o + i * 2 + 1, none⟩ = some (.int .i64 (gd l i).f))
theorem Sds.later {w w' : World} {A : Option Addr} {n : Nat} {l : List Sd} (h : Sds w A n l) (hb : Below w.heap.size w w') : Sds w' A n l :=
  ⟨h.1, fun hn => by
    obtain ⟨b, o, e, hl, hc⟩ := h.2 hn
    exact ⟨b, o, e, Nat.lt_of_lt_of_le hl hb.size, fun i hi => ⟨(hb.cell (p := ⟨b, _, none⟩) hl).trans (hc i hi).1, (hb.cell (p := ⟨b, _, none⟩) hl).trans (hc i hi).2⟩⟩⟩
def Flw (w : World) (A : Option Addr) (n : Nat) (ls : List (List Pr)) : Prop :=
  ls.length = n ∧ (0 < n → ∃ b o, A = some ⟨b, o, none⟩ ∧ b < w.heap.size ∧ ∀ i, i < n → ∃ Ai ni ci, w.cell? ⟨b, o + i, none⟩ = some (.slice Ai ni ci) ∧ ni ≤ ci ∧ Prs w Ai ni (gf ls i))
theorem Flw.later {w w' : World} {A : Option Addr} {n : Nat} {ls : List (List Pr)} (h : Flw w A n ls) (hb : Below w.heap.size w w') : Flw w' A n ls :=
  ⟨h.1, fun hn => by
    obtain ⟨b, o, e, hl, hc⟩ := h.2 hn
    refine ⟨b, o, e, Nat.lt_of_lt_of_le hl hb.size, fun i hi => ?_⟩
    obtain ⟨Ai, ni, ci, h1, h2, h3⟩ := hc i hi
    exact ⟨Ai, ni, ci, (hb.cell (p := ⟨b, _, none⟩) hl).trans h1, h2, h3.later hb⟩⟩
theorem filter_all {l : List Pr} {d : Int} (h : ∀ q ∈ l, q.i = d) : l.filter (fun q => q.i == d) = l := List.filter_eq_self.2 fun q hq => by simpa using h q hq
theorem filter_no {l : List Pr} {d : Int} (h : ∀ q ∈ l, q.i ≠ d) : l.filter (fun q => q.i == d) = [] := List.filter_eq_nil_iff.2 fun q hq => by simpa using h q hq
/-- The pairs that begin with d lie together. -/
theorem froms_mid {l : List Pr} {a m d : Nat} (h0 : a + m ≤ l.length) (h1 : ∀ j, j < a → (gp l j).i ≠ d) (h2 : ∀ j, a ≤ j → j < a + m → (gp l j).i = d) (h3 : ∀ j, a + m ≤ j → j < l.length → (gp l j).i ≠ d) : froms l d = (l.drop a).take m := by
  have e : l = l.take a ++ ((l.drop a).take m ++ (l.drop a).drop m) := by rw [List.take_append_drop, List.take_append_drop]
  unfold froms
  conv => lhs; rw [e]
  rw [List.filter_append, List.filter_append]
  rw [filter_no (l := l.take a), filter_all (l := (l.drop a).take m), filter_no (l := (l.drop a).drop m)]
  · simp
  · intro q hq
    rw [List.drop_drop] at hq
    obtain ⟨j, hj, rfl⟩ := List.getElem_of_mem hq
    rw [List.length_drop] at hj
    rw [List.getElem_drop, ← gp_lt (by omega)]
    exact h3 _ (by omega) (by omega)
  · intro q hq
    obtain ⟨j, hj, rfl⟩ := List.getElem_of_mem hq
    rw [List.length_take, List.length_drop] at hj
    rw [List.getElem_take, List.getElem_drop, ← gp_lt (by omega)]
    exact h2 _ (by omega) (by omega)
  · intro q hq
    obtain ⟨j, hj, rfl⟩ := List.getElem_of_mem hq
    rw [List.length_take] at hj
    rw [List.getElem_take, ← gp_lt (by omega)]
    exact h1 _ (by omega)
theorem Prs.mid {w : World} {b o n a m : Nat} {l : List Pr} (h : Prs w (some ⟨b, o, none⟩) n l) (h0 : a + m ≤ n) (hl : 0 < n) : Prs w (some ⟨b, o + a * 2, none⟩) m ((l.drop a).take m) := by
  obtain ⟨b', o', e, hlt, hc⟩ := h.2 hl
  injection e with e; injection e with e1 e2; subst e1 e2
  have hn := h.1
  refine ⟨by rw [List.length_take, List.length_drop]; omega, fun _ => ⟨b, o + a * 2, rfl, hlt, fun i hi => ?_⟩⟩
  have e : gp ((l.drop a).take m) i = gp l (a + i) := by
    rw [gp_lt (by rw [List.length_take, List.length_drop]; omega), gp_lt (by omega), List.getElem_take, List.getElem_drop]
  rw [e, show o + a * 2 + i * 2 = o + (a + i) * 2 by omega]
  exact hc (a + i) (by omega)
/-- A part of a flow function comes back. -/
def GetPrs (w0 : World) (w : World) (l : List Pr) (e : Ending) (w' : World) : Prop := ∃ A n c, e = .returned (.slice A n c) ∧ Prs w0 A n l ∧ Below w.heap.size w w'
end If
end Go.Df
