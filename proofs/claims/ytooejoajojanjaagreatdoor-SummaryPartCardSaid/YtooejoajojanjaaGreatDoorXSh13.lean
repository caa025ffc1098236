/- Texts: Ldz. -/
import Derived.Test.YtooejoajojanjaaGreatDoorXSh12
import Derived.Test.YtooejoajojanjaaGreatDoorXSh07
import Derived.Test.YtooejoajojanjaaGreatDoorRows
namespace Go.Df
open Go.RowKit Go.ChangeShapes Go.WideShapes
section
variable {H : Type} {enc : TypeId × Value → H} {P : Program} {w : World} {base : Nat} {held : Bool}
theorem open_rowsC {t e : TypeId} {fuel : Nat} {v : Value} {x : DataW H × List MemPlace} (ht : P.underlying t = some (.slice e)) (hC : P.cellsOf e = 1)
   (h : DataW.trod enc P w base (fun _ => true) held fuel t [v] = some x) :
   ∃ A n c, v = .slice A n c ∧ n ≤ c ∧ (0 < n → ∃ b o, A = some ⟨b, o, none⟩ ∧ b < w.heap.size ∧ ∀ i, i < n → ∃ u m y, w.cell? ⟨b, o + i, none⟩ = some u ∧ DataW.trod enc P w base (fun _ => true) held m e [u] = some y) := by
 rcases Go.Deep.open_slice ht h with ⟨h0, _⟩ | ⟨a, len, cap, m, n, D, Pl, hcs, hbb, hl, hm, hmm, hx, hi⟩
 · injection h0 with h0
   exact ⟨none, 0, 0, h0, Nat.le_refl _, fun h => absurd h (by omega)⟩
 · injection hcs with hcs
   subst hcs
   have hread : ∀ i, i < len → ∃ u m y, w.cell? (a.add i) = some u ∧ DataW.trod enc P w base (fun _ => true) held m e [u] = some y := by
     intro i hil
     obtain ⟨cs', hc, ht'⟩ := hi i (by rw [hmm]; simp; omega)
     rw [hC] at hc
     obtain ⟨h1, h2, h3⟩ := World.cells?_some hc
     match cs', h2 with
     | [u], _ =>
       have h4 := h3 0 (by omega)
       rw [addr_add_add, Nat.mul_one] at h4
       exact ⟨u, _, _, h4, ht'⟩
   refine ⟨some a, len, cap, rfl, hl, fun hp => ?_⟩
   obtain ⟨b, o, sp⟩ := a
   obtain ⟨u0, m0, y0, h0, -⟩ := hread 0 hp
   have hsp : sp = none := by
     cases sp with
     | none => rfl
     | some s =>
       exfalso
       simp only [World.cell?, Addr.add] at h0
       split at h0 <;> simp at h0
   subst hsp
   refine ⟨b, o, rfl, cell_lt (p := ⟨b, o, none⟩) (by have h9 := h0; rw [add_lit] at h9; simpa using h9), fun i hil => ?_⟩
   obtain ⟨u, m1, y, h1, h2⟩ := hread i hil
   rw [add_lit] at h1
   exact ⟨u, m1, y, h1, h2⟩
end
theorem slice_len {H : Type} {enc : TypeId × Value → H} {P : Program} {w : World} {base : Nat} {held : Bool} {t e : TypeId} {fuel : Nat} {A : Option Addr} {n c : Nat} {x : DataW H × List MemPlace} (ht : P.underlying t = some (.slice e))
   (h : DataW.trod enc P w base (fun _ => true) held fuel t [.slice A n c] = some x) : n ≤ 9223372036854775807 := by
 rcases Go.Deep.open_slice ht h with ⟨h0, _⟩ | ⟨a, len, cap, m, k, D, Pl, hcs, hbb, hl, hm, hmm, hx, hi⟩
 · injection h0 with h0
   injection h0 with h1 h2 h3
   omega
 · injection hcs with hcs
   injection hcs with h1 h2 h3
   unfold maxLen at hm
   omega
theorem cells2 {cs : List Value} {z0 z1 : Int} (hl : cs.length = 2) (h0 : (cs.drop 0).take 1 = [.int .i64 z0]) (h1 : (cs.drop 1).take 1 = [.int .i64 z1]) : cs = [z0, z1].map (Value.int .i64) := by
 match cs, hl with
 | [a, b], _ => simp at h0 h1; simp [h0, h1]
namespace If
theorem gp_mk {n i : Nat} (h : i < n) (f : Nat → Pr) : gp ((List.range n).map f) i = f i := by simp [gp, h]
theorem gd_mk {n i : Nat} (h : i < n) (f : Nat → Sd) : gd ((List.range n).map f) i = f i := by simp [gd, h]
theorem gf_mk {n i : Nat} (h : i < n) (f : Nat → List Pr) : gf ((List.range n).map f) i = f i := by simp [gf, h]
end If
end Go.Df
namespace Go.Proofs.YtooejoajojanjaaGreatDoor
open Go.RowKit Go.ChangeShapes Go.WideShapes Go.Joins Go.Df Go.Df.If
theorem hc1 : Tryz.prog.cellsOf 3 = 1 := by kernel_rfl
section
variable {H : Type} {enc : TypeId × Value → H} {w : World} {base : Nat} {held : Bool}
theorem open_pair (n : Nat) (cs' : List Value) (y : DataW H × List MemPlace) (h : DataW.trod enc Tryz.prog w base (fun _ => true) held n 72 cs' = some y) : ∃ zs : List Int, cs' = zs.map (Value.int .i64) ∧ ∀ q, q < 2 → (Lit.int .i64 (gi zs q)).wf = true := by
 obtain ⟨y0, y1, m, hx, hl, h0, h1⟩ := Go.ChangeShapes.trod_struct2 Tryz.underlying72 h
 obtain ⟨z0, e0, f0, w0⟩ := DataW.trod_int Tryz.underlying3 h0
 obtain ⟨z1, e1, f1, w1⟩ := DataW.trod_int Tryz.underlying3 h1
 have hc3 : Tryz.prog.cellsOf 72 = 2 := by kernel_rfl
 rw [hc3] at hl
 dsimp only at e0 e1
 rw [hc1] at e0 e1
 refine ⟨[z0, z1], cells2 hl e0 e1, fun q hq => ?_⟩
 match q, hq with
 | 0, _ => exact w0
 | 1, _ => exact w1
theorem open_seed (n : Nat) (cs' : List Value) (y : DataW H × List MemPlace) (h : DataW.trod enc Tryz.prog w base (fun _ => true) held n 117 cs' = some y) : ∃ zs : List Int, cs' = zs.map (Value.int .i64) ∧ ∀ q, q < 2 → (Lit.int .i64 (gi zs q)).wf = true := by
 obtain ⟨y0, y1, m, hx, hl, h0, h1⟩ := Go.ChangeShapes.trod_struct2 Tryz.underlying117 h
 obtain ⟨z0, e0, f0, w0⟩ := DataW.trod_int Tryz.underlying3 h0
 obtain ⟨z1, e1, f1, w1⟩ := DataW.trod_int Tryz.underlying3 h1
 have hc3 : Tryz.prog.cellsOf 117 = 2 := by kernel_rfl
 rw [hc3] at hl
 dsimp only at e0 e1
 rw [hc1] at e0 e1
 refine ⟨[z0, z1], cells2 hl e0 e1, fun q hq => ?_⟩
 match q, hq with
 | 0, _ => exact w0
 | 1, _ => exact w1
theorem open_pflows {fuel : Nat} {v : Value} {x : DataW H × List MemPlace} (h : DataW.trod enc Tryz.prog w base (fun _ => true) held fuel 46 [v] = some x) : ∃ A n c ls, v = .slice A n c ∧ n ≤ c ∧ Flw w A n ls := by
 obtain ⟨A, n, c, rfl, hnc, hrow⟩ := open_rowsC Tryz.underlying46 (by kernel_rfl) h
 have hex : ∀ i, ∃ l : List Pr, ∀ b o, A = some ⟨b, o, none⟩ → i < n → ∃ Ai ni ci, w.cell? ⟨b, o + i, none⟩ = some (.slice Ai ni ci) ∧ ni ≤ ci ∧ Prs w Ai ni l := by
   intro i
   by_cases hi : i < n
   · obtain ⟨b, o, rfl, hb, hc⟩ := hrow (by omega)
     obtain ⟨u, m, y, h1, h2⟩ := hc i hi
     obtain ⟨Ai, ni, ci, g, rfl, hni, k1, -⟩ := open_rowsI Tryz.underlying95 (k := 2) (by kernel_rfl) (by omega) open_pair h2
     refine ⟨(List.range ni).map (fun j => ⟨g j 0, g j 1⟩), fun b' o' e' _ => ?_⟩
     injection e' with e'
     injection e' with e1 e2
     subst e1 e2
     refine ⟨Ai, ni, ci, h1, hni, by simp, fun h0 => ?_⟩
     obtain ⟨b2, o2, rfl, hl2, hc2⟩ := k1 h0
     refine ⟨b2, o2, rfl, hl2, fun j hj => ?_⟩
     rw [gp_mk hj]
     exact ⟨hc2 j hj 0 (by omega), hc2 j hj 1 (by omega)⟩
   · exact ⟨[], fun _ _ _ h => absurd h hi⟩
 refine ⟨A, n, c, (List.range n).map (fun i => (hex i).choose), rfl, hnc, by simp, fun h0 => ?_⟩
 obtain ⟨b, o, rfl, hb, -⟩ := hrow h0
 refine ⟨b, o, rfl, hb, fun i hi => ?_⟩
 rw [gf_mk hi]
 exact (hex i).choose_spec b o rfl hi
theorem open_pseeds {fuel : Nat} {v : Value} {x : DataW H × List MemPlace} (h : DataW.trod enc Tryz.prog w base (fun _ => true) held fuel 47 [v] = some x) : ∃ A n c sd, v = .slice A n c ∧ n ≤ c ∧ n ≤ 9223372036854775807 ∧ Sds w A n sd := by
 obtain ⟨A, n, c, g, rfl, hnc, k1, -⟩ := open_rowsI Tryz.underlying47 (k := 2) (by kernel_rfl) (by omega) open_seed h
 have hn := slice_len Tryz.underlying47 h
 refine ⟨A, n, c, (List.range n).map (fun j => ⟨g j 0, g j 1⟩), rfl, hnc, hn, by simp, fun h0 => ?_⟩
 obtain ⟨b2, o2, rfl, hl2, hc2⟩ := k1 h0
 refine ⟨b2, o2, rfl, hl2, fun j hj => ?_⟩
 rw [gd_mk hj]
 exact ⟨hc2 j hj 0 (by omega), hc2 j hj 1 (by omega)⟩
set_option maxRecDepth 100000 in
/-- A problem that came in. -/
theorem open_pb {r : Reach} {b0 : Nat} {v : Value} {d : DataW H} {p : List MemPlace} (hv : Value.okWide Tryz.prog w r b0 49 v) (h : DataW.Trod enc Tryz.prog w base (fun _ => true) held 49 v d p) :
   ∃ A1 n1 c1 A2 n2 c2 mn F A3 n3 c3 A4 n4 c4 ns es ls sd, v = .agg #[.slice A1 n1 c1, .slice A2 n2 c2, .int .i64 mn, .int .i64 F, .slice A3 n3 c3, .slice A4 n4 c4] ∧ Gr w A1 n1 A2 n2 ns es ∧ Flw w A3 n3 ls ∧ Sds w A4 n4 sd ∧ n4 ≤ 9223372036854775807 ∧ n3 ≤ c3 ∧ n4 ≤ c4 := by
 obtain ⟨cs, rfl, hsz⟩ := okWide_struct Tryz.underlying49 hv
 have hC : Tryz.prog.cellsOf 49 = 6 := by kernel_rfl
 have hS : Tryz.prog.cellsOf 45 = 3 := by kernel_rfl
 have hF : Tryz.prog.cellsOf 46 = 1 := by kernel_rfl
 have hV : Tryz.prog.cellsOf 47 = 1 := by kernel_rfl
 have hN : Tryz.prog.cellsOf 42 = 1 := by kernel_rfl
 have hE : Tryz.prog.cellsOf 43 = 1 := by kernel_rfl
 rw [hC] at hsz
 obtain ⟨l⟩ := cs
 match l, hsz with
 | [v0, v1, v2, v3, v4, v5], _ =>
 obtain ⟨fuel, hf⟩ := h
 obtain ⟨y0, y1, y2, y3, m, -, -, h0, h1, h2, h3⟩ := trod_struct4 Tryz.underlying49 hf
 simp only [Value.cells, hS, hc1, hF, hV, List.drop_zero, List.drop_succ_cons, List.take_succ_cons, List.take_zero] at h0 h1 h2 h3
 obtain ⟨x0, x1, x2, m', -, -, g0, g1, g2⟩ := Go.Deep.trod_struct3 Tryz.underlying45 h0
 simp only [hN, hE, hc1, List.drop_zero, List.drop_succ_cons, List.take_succ_cons, List.take_zero] at g0 g1 g2
 obtain ⟨A1, n1, c1, A2, n2, c2, ns, es, rfl, rfl, hg⟩ := open_gr g0 g1
 obtain ⟨mn, e2, -, -⟩ := DataW.trod_int Tryz.underlying3 g2
 injection e2 with e2
 subst e2
 obtain ⟨F, e3, -, -⟩ := DataW.trod_int Tryz.underlying3 h1
 injection e3 with e3
 subst e3
 obtain ⟨A3, n3, c3, ls, rfl, hn3, hfl⟩ := open_pflows h2
 obtain ⟨A4, n4, c4, sd, rfl, hnc, hn4, hsd⟩ := open_pseeds h3
 exact ⟨A1, n1, c1, A2, n2, c2, mn, F, A3, n3, c3, A4, n4, c4, ns, es, ls, sd, rfl, hg, hfl, hsd, hn4, hn3, hnc⟩
end
end Go.Proofs.YtooejoajojanjaaGreatDoor
