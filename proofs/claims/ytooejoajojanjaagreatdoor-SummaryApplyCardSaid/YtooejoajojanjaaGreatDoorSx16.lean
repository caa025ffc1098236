/- Summaries that came in as arguments. -/
import Derived.Test.YtooejoajojanjaaGreatDoorSx04
import Derived.Test.YtooejoajojanjaaGreatDoorSx10
import Derived.Test.YtooejoajojanjaaGreatDoorRows
namespace Go.Df
open Go.RowKit Go.ChangeShapes Go.WideShapes
theorem addr_add2 (a : Addr) (x y : Nat) : (a.add x).add y = a.add (x + y) := by
  by_cases hx : x = 0 <;> by_cases hy : y = 0 <;> simp [Addr.add, hx, hy, Nat.add_assoc]
section
variable {H : Type} {enc : TypeId × Value → H} {P : Program} {w : World} {base : Nat} {held : Bool}
/-- A slice of elements of k cells each that came in. -/
theorem open_rowsK {t e : TypeId} {k fuel : Nat} {v : Value} {x : DataW H × List MemPlace} (ht : P.underlying t = some (.slice e)) (hC : P.cellsOf e = k) (hk : 0 < k)
    (h : DataW.trod enc P w base (fun _ => true) held fuel t [v] = some x) :
    ∃ A n c, v = .slice A n c ∧ n ≤ c ∧ n ≤ 9223372036854775807 ∧ (0 < n → ∃ b o, A = some ⟨b, o, none⟩ ∧ b < w.heap.size ∧ ∀ i, i < n → ∃ cs' m y, cs'.length = k ∧ (∀ q, q < k → w.cell? ⟨b, o + i * k + q, none⟩ = cs'[q]?) ∧ DataW.trod enc P w base (fun _ => true) held m e cs' = some y) := by
  rcases Go.Deep.open_slice ht h with ⟨h0, _⟩ | ⟨a, len, cap, m, n, D, Pl, hcs, hbb, hl, hm, hmm, hx, hi⟩
  · injection h0 with h0
    exact ⟨none, 0, 0, h0, Nat.le_refl _, by omega, fun h => absurd h (by omega)⟩
  · injection hcs with hcs
    subst hcs
    have hread : ∀ i, i < len → ∃ cs' m y, cs'.length = k ∧ (∀ q, q < k → w.cell? (a.add (i * k + q)) = cs'[q]?) ∧ DataW.trod enc P w base (fun _ => true) held m e cs' = some y := by
      intro i hil
      obtain ⟨cs', hc, ht'⟩ := hi i (by rw [hmm]; simp; omega)
      rw [hC] at hc
      obtain ⟨h1, h2, h3⟩ := World.cells?_some hc
      refine ⟨cs', _, _, h2, fun q hq => ?_, ht'⟩
      have h4 := h3 q hq
      rw [addr_add2] at h4
      exact h4
    refine ⟨some a, len, cap, rfl, hl, by unfold maxLen at hm; omega, fun hp => ?_⟩
    obtain ⟨b, o, sp⟩ := a
    obtain ⟨cs0, m0, y0, hl0, h0, -⟩ := hread 0 hp
    have h0 := h0 0 hk
    rw [List.getElem?_eq_getElem (by omega)] at h0
    have hsp : sp = none := by
      cases sp with
      | none => rfl
      | some s =>
        exfalso
        simp only [World.cell?, Addr.add] at h0
        split at h0 <;> simp at h0
    subst hsp
    refine ⟨b, o, rfl, cell_lt (p := ⟨b, o, none⟩) (by have h9 := h0; rw [add_lit] at h9; simpa using h9), fun i hil => ?_⟩
    obtain ⟨cs', m1, y, h1, h2, h3⟩ := hread i hil
    refine ⟨cs', m1, y, h1, fun q hq => ?_, h3⟩
    have h4 := h2 q hq
    rw [add_lit, ← Nat.add_assoc] at h4
    exact h4
end
theorem take1 {cs : List Value} {i : Nat} {v : Value} (h : (cs.drop i).take 1 = [v]) : cs[i]? = some v := by
  have h1 := congrArg (·[0]?) h
  simpa using h1
namespace If
theorem gp_mk1 {n i : Nat} (h : i < n) (f : Nat → Pr) : gp ((List.range n).map f) i = f i := by simp [gp, h]
theorem gS_mk {n i : Nat} (h : i < n) (f : Nat → Su) : gS ((List.range n).map f) i = f i := by simp [gS, h]
end If
end Go.Df
namespace Go.Proofs.YtooejoajojanjaaGreatDoor
open Go.RowKit Go.ChangeShapes Go.WideShapes Go.Df Go.Df.If
theorem hci : Tryz.prog.cellsOf 3 = 1 := by kernel_rfl
theorem hcp : Tryz.prog.cellsOf 72 = 2 := by kernel_rfl
theorem hcq : Tryz.prog.cellsOf 28 = 1 := by kernel_rfl
theorem hcs : Tryz.prog.cellsOf 30 = 3 := by kernel_rfl
section
variable {H : Type} {enc : TypeId × Value → H} {w : World} {base : Nat} {held : Bool}
theorem open_prs {fuel : Nat} {v : Value} {x : DataW H × List MemPlace} (h : DataW.trod enc Tryz.prog w base (fun _ => true) held fuel 28 [v] = some x) : ∃ A n c l, v = .slice A n c ∧ n ≤ 9223372036854775807 ∧ Prs w A n l ∧ ∀ q ∈ l, (Lit.int .i64 q.i).wf = true := by
  obtain ⟨A, n, c, rfl, -, hn, hrow⟩ := open_rowsK Tryz.underlying28 hcp (by omega) h
  have hex : ∀ i, ∃ p : Pr, (Lit.int .i64 p.i).wf = true ∧ ∀ b o, A = some ⟨b, o, none⟩ → i < n → w.cell? ⟨b, o + i * 2, none⟩ = some (.int .i64 p.i) ∧ w.cell? ⟨b, o + i * 2 + 1, none⟩ = some (.int .i64 p.o) := by
    intro i
    by_cases hi : i < n
    · obtain ⟨b, o, rfl, hb, hc⟩ := hrow (by omega)
      obtain ⟨cs', m, y, -, hcell, htr⟩ := hc i hi
      obtain ⟨y0, y1, m1, -, -, h0, h1⟩ := Go.ChangeShapes.trod_struct2 Tryz.underlying72 htr
      obtain ⟨z0, e0, -, w0⟩ := DataW.trod_int Tryz.underlying3 h0
      obtain ⟨z1, e1, -, -⟩ := DataW.trod_int Tryz.underlying3 h1
      dsimp only at e0 e1
      rw [hci] at e0 e1
      refine ⟨⟨z0, z1⟩, w0, fun b' o' e' _ => ?_⟩
      injection e' with e'
      injection e' with e1' e2' _
      subst e1' e2'
      exact ⟨(hcell 0 (by omega)).trans (take1 e0), (hcell 1 (by omega)).trans (take1 e1)⟩
    · exact ⟨⟨0, 0⟩, by decide, fun _ _ _ h => absurd h hi⟩
  refine ⟨A, n, c, (List.range n).map (fun i => (hex i).choose), rfl, hn, ⟨by simp, fun h0 => ?_⟩, fun q hq => ?_⟩
  · obtain ⟨b, o, rfl, hb, -⟩ := hrow h0
    refine ⟨b, o, rfl, hb, fun i hi => ?_⟩
    rw [gp_mk1 hi]
    exact (hex i).choose_spec.2 b o rfl hi
  · obtain ⟨j, hj, rfl⟩ := List.mem_map.1 hq
    exact (hex j).choose_spec.1
set_option maxRecDepth 100000 in
/-- The parts of a summary. -/
theorem open_sumC {n : Nat} {cs' : List Value} {y : DataW H × List MemPlace} (h : DataW.trod enc Tryz.prog w base (fun _ => true) held n 30 cs' = some y) : ∃ f E ne ce T nt ct l1 l2, cs' = [.int .i64 f, .slice E ne ce, .slice T nt ct] ∧ Prs w E ne l1 ∧ Prs w T nt l2 ∧ (∀ q ∈ l1, (Lit.int .i64 q.i).wf = true) ∧ ∀ q ∈ l2, (Lit.int .i64 q.i).wf = true := by
  obtain ⟨y0, y1, y2, m, -, hl, h0, h1, h2⟩ := Go.Deep.trod_struct3 Tryz.underlying30 h
  rw [hcs] at hl
  match cs', hl with
  | [a, b, c], _ =>
  simp only [hci, hcq, List.drop_zero, List.drop_succ_cons, List.take_succ_cons, List.take_zero] at h0 h1 h2
  obtain ⟨f, e0, -, -⟩ := DataW.trod_int Tryz.underlying3 h0
  obtain ⟨E, ne, ce, l1, rfl, -, hp1, hw1⟩ := open_prs h1
  obtain ⟨T, nt, ct, l2, rfl, -, hp2, hw2⟩ := open_prs h2
  injection e0 with e0
  subst e0
  exact ⟨f, E, ne, ce, T, nt, ct, l1, l2, rfl, hp1, hp2, hw1, hw2⟩
theorem open_sums {fuel : Nat} {v : Value} {x : DataW H × List MemPlace} (h : DataW.trod enc Tryz.prog w base (fun _ => true) held fuel 22 [v] = some x) : ∃ A n c L, v = .slice A n c ∧ n ≤ 9223372036854775807 ∧ SmW w A n L := by
  obtain ⟨A, n, c, rfl, -, hn, hrow⟩ := open_rowsK Tryz.underlying22 hcs (by omega) h
  have hex : ∀ i, ∃ u : Su, ∀ b o, A = some ⟨b, o, none⟩ → i < n → ∃ E ne ce T nt ct, w.cell? ⟨b, o + i * 3, none⟩ = some (.int .i64 u.f) ∧ w.cell? ⟨b, o + i * 3 + 1, none⟩ = some (.slice E ne ce) ∧ w.cell? ⟨b, o + i * 3 + 2, none⟩ = some (.slice T nt ct) ∧ Prs w E ne u.x ∧ Prs w T nt u.y := by
    intro i
    by_cases hi : i < n
    · obtain ⟨b, o, rfl, hb, hc⟩ := hrow (by omega)
      obtain ⟨cs', m, y, -, hcell, htr⟩ := hc i hi
      obtain ⟨f, E, ne, ce, T, nt, ct, l1, l2, rfl, hp1, hp2, -, -⟩ := open_sumC htr
      refine ⟨⟨f, l1, l2⟩, fun b' o' e' _ => ?_⟩
      injection e' with e'
      injection e' with e1' e2' _
      subst e1' e2'
      exact ⟨E, ne, ce, T, nt, ct, hcell 0 (by omega), hcell 1 (by omega), hcell 2 (by omega), hp1, hp2⟩
    · exact ⟨⟨0, [], []⟩, fun _ _ _ h => absurd h hi⟩
  refine ⟨A, n, c, (List.range n).map (fun i => (hex i).choose), rfl, hn, ⟨by simp, fun h0 => ?_⟩⟩
  obtain ⟨b, o, rfl, hb, -⟩ := hrow h0
  refine ⟨b, o, rfl, hb, fun i hi => ?_⟩
  rw [gS_mk hi]
  exact (hex i).choose_spec b o rfl hi
end
end Go.Proofs.YtooejoajojanjaaGreatDoor
