/- Problems with values as a whole: their error, in plain words, and how they lie in memory. -/
import Derived.Test.YtmjebjjhfoncfaaDoorEc
import Derived.Test.YtmjebjjhfoncfaaDoorSh
namespace Go.Df
open Go.RowKit
namespace Sp
def gl (ls : List (List Xp)) (i : Nat) : List Xp := ls.getD i []
def lessS (a b : Vs) : Bool := if a.n ≠ b.n then decide (a.n < b.n) else decide (a.f < b.f)
theorem ordS_ge (a b : Vs) : decide (0 ≤ orL [cmpI a.n b.n, cmpI a.f b.f]) = !lessS a b := by
  unfold lessS
  rw [or_cmp, or_last]
  split <;> rfl
/-- The error of a seed. -/
def seedErr (N : Nat) (F : Int) (l : List Vs) (j : Nat) : Int :=
  if (gs l j).n < 0 ∨ (N : Int) ≤ (gs l j).n ∨ (gs l j).f < 1 ∨ F ≤ (gs l j).f then 4
  else if verr (gs l j).k (gs l j).v ≠ 0 then verr (gs l j).k (gs l j).v
  else if 0 < j ∧ lessS (gs l (j - 1)) (gs l j) = false then 13 else 0
/-- The error of a problem. -/
def ideErr (ns : List Nd) (es : List Ed) (m F : Int) (ls : List (List Xp)) (sd : List Vs) : Int :=
  if superErr ns es m ≠ 0 then superErr ns es m else if F < 1 ∨ 1024 < F then 4 else if ls.length ≠ es.length then 20
  else if fe (fun i => pairsErr F (gl ls i)) 0 ls.length ≠ 0 then fe (fun i => pairsErr F (gl ls i)) 0 ls.length else fe (seedErr ns.length F sd) 0 sd.length
theorem ide_flow {ns : List Nd} {es : List Ed} {m F : Int} {ls : List (List Xp)} {sd : List Vs} {e : Int} {j : Nat} (h1 : superErr ns es m = 0) (h2 : ¬ (F < 1 ∨ 1024 < F)) (h3 : ls.length = es.length)
    (h : ∀ x, x < j → pairsErr F (gl ls x) = 0) (hj : j < ls.length) (he : pairsErr F (gl ls j) = e) (h0 : e ≠ 0) : ideErr ns es m F ls sd = e := by
  unfold ideErr
  rw [if_neg (not_not_intro h1), if_neg h2, if_neg (not_not_intro h3), fe_hit h hj he h0, if_pos h0]
theorem ide_seed {ns : List Nd} {es : List Ed} {m F : Int} {ls : List (List Xp)} {sd : List Vs} {e : Int} {j : Nat} (h1 : superErr ns es m = 0) (h2 : ¬ (F < 1 ∨ 1024 < F)) (h3 : ls.length = es.length)
    (h4 : ∀ x, x < ls.length → pairsErr F (gl ls x) = 0) (h : ∀ x, x < j → seedErr ns.length F sd x = 0) (hj : j < sd.length) (he : seedErr ns.length F sd j = e) (h0 : e ≠ 0) : ideErr ns es m F ls sd = e := by
  unfold ideErr
  rw [if_neg (not_not_intro h1), if_neg h2, if_neg (not_not_intro h3), fe_ok ls.length 0 (fun i _ hi => h4 i (by omega)), if_neg (by simp), fe_hit h hj he h0]
theorem ide_ok {ns : List Nd} {es : List Ed} {m F : Int} {ls : List (List Xp)} {sd : List Vs} (h1 : superErr ns es m = 0) (h2 : ¬ (F < 1 ∨ 1024 < F)) (h3 : ls.length = es.length)
    (h4 : ∀ x, x < ls.length → pairsErr F (gl ls x) = 0) (h : ∀ x, x < sd.length → seedErr ns.length F sd x = 0) : ideErr ns es m F ls sd = 0 := by
  unfold ideErr
  rw [if_neg (not_not_intro h1), if_neg h2, if_neg (not_not_intro h3), fe_ok ls.length 0 (fun i _ hi => h4 i (by omega)), if_neg (by simp), fe_ok sd.length 0 (fun i _ hi => h i (by omega))]
end Sp
theorem Xps.kept {w w' : World} {A : Option Addr} {n : Nat} {l : List Sp.Xp} (h : Xps w A n l) (hk : Kept [] w w') : Xps w' A n l := h.later hk.toBelow
/-- A slice of slices of pairs in memory. -/
def Fls (w : World) (A : Option Addr) (n : Nat) (ls : List (List Sp.Xp)) : Prop :=
  ls.length = n ∧ (0 < n → ∃ b o, A = some ⟨b, o, none⟩ ∧ b < w.heap.size ∧ ∀ i, i < n → ∃ Ai ni ci, w.cell? ⟨b, o + i, none⟩ = some (.slice Ai ni ci) ∧ Xps w Ai ni (Sp.gl ls i))
/-- A slice of seeds in memory. -/
def Vss (w : World) (A : Option Addr) (n : Nat) (l : List Sp.Vs) : Prop :=
  l.length = n ∧ (0 < n → ∃ b o, A = some ⟨b, o, none⟩ ∧ b < w.heap.size ∧ ∀ i, i < n → w.cell? ⟨b, o + i * 4, none⟩ = some (.int .i64 (Sp.gs l i).n) ∧ w.cell? ⟨b, o + i * 4 + 1, none⟩ = some (.int .i64 (Sp.gs l i).f) ∧ w.cell? ⟨b, o + i * 4 + 2, none⟩ = some (.int .i64 (Sp.gs l i).k) ∧ w.cell? ⟨b, o + i * 4 + 3, none⟩ = some (.int .i64 (Sp.gs l i).v))
theorem Fls.later {w w' : World} {A : Option Addr} {n : Nat} {ls : List (List Sp.Xp)} (h : Fls w A n ls) (hb : Below w.heap.size w w') : Fls w' A n ls :=
  ⟨h.1, fun hn => by
    obtain ⟨b, o, e, hl, hc⟩ := h.2 hn
    refine ⟨b, o, e, Nat.lt_of_lt_of_le hl hb.size, fun i hi => ?_⟩
    obtain ⟨Ai, ni, ci, h1, h2⟩ := hc i hi
    exact ⟨Ai, ni, ci, (hb.cell (p := ⟨b, _, none⟩) hl).trans h1, h2.later hb⟩⟩
theorem Vss.later {w w' : World} {A : Option Addr} {n : Nat} {l : List Sp.Vs} (h : Vss w A n l) (hb : Below w.heap.size w w') : Vss w' A n l :=
  ⟨h.1, fun hn => by
    obtain ⟨b, o, e, hl, hc⟩ := h.2 hn
    exact ⟨b, o, e, Nat.lt_of_lt_of_le hl hb.size, fun i hi => ⟨(hb.cell (p := ⟨b, _, none⟩) hl).trans (hc i hi).1, (hb.cell (p := ⟨b, _, none⟩) hl).trans (hc i hi).2.1, (hb.cell (p := ⟨b, _, none⟩) hl).trans (hc i hi).2.2.1, (hb.cell (p := ⟨b, _, none⟩) hl).trans (hc i hi).2.2.2⟩⟩⟩
end Go.Df
