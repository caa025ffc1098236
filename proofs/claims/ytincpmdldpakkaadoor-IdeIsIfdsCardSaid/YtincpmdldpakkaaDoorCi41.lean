/- Texts: Dg Hi Tj Ry. -/
import Derived.Test.YtincpmdldpakkaaDoorCi35
import Derived.Test.YtincpmdldpakkaaDoorCi12
import Derived.Test.YtincpmdldpakkaaDoorCi32
import Derived.Test.YtincpmdldpakkaaDoorRows
import Derived.ChangeSame
import Derived.LaidLaws
import Derived.LaidHandle
import Derived.Handed
import Derived.JoinedOf
import Derived.Lib.SmallJoins
import Derived.Test.YtincpmdldpakkaaDoorCi33
namespace Go.Df
open Go.RowKit Go.ChangeShapes Go.WideShapes
section
variable {H : Type} {enc : TypeId × Value → H} {P : Program} {w : World} {base : Nat} {held : Bool}
theorem addr_add_add (a : Addr) (x y : Nat) : (a.add x).add y = a.add (x + y) := by
 by_cases hx : x = 0 <;> by_cases hy : y = 0 <;> simp [Addr.add, hx, hy, Nat.add_assoc]
theorem open_rowsI {t e : TypeId} {k fuel : Nat} {v : Value} {x : DataW H × List MemPlace} (ht : P.underlying t = some (.slice e)) (hC : P.cellsOf e = k) (hk : 0 < k)
   (hel : ∀ n cs' y, DataW.trod enc P w base (fun _ => true) held n e cs' = some y → ∃ zs : List Int, cs' = zs.map (Value.int .i64) ∧ ∀ q, q < k → (Lit.int .i64 (gi zs q)).wf = true)
   (h : DataW.trod enc P w base (fun _ => true) held fuel t [v] = some x) :
   ∃ A n c, ∃ g : Nat → Nat → Int, v = .slice A n c ∧ n ≤ c ∧ (0 < n → ∃ b o, A = some ⟨b, o, none⟩ ∧ b < w.heap.size ∧ ∀ i, i < n → ∀ q, q < k → w.cell? ⟨b, o + i * k + q, none⟩ = some (.int .i64 (g i q))) ∧ ∀ i, i < n → ∀ q, q < k → (Lit.int .i64 (g i q)).wf = true := by
 rcases Go.Deep.open_slice ht h with ⟨h0, _⟩ | ⟨a, len, cap, m, n, D, Pl, hcs, hbb, hl, hm, hmm, hx, hi⟩
 · injection h0 with h0
   exact ⟨none, 0, 0, fun _ _ => 0, h0, Nat.le_refl _, fun h => absurd h (by omega), fun i hi => absurd hi (by omega)⟩
 · injection hcs with hcs
   subst hcs
   have hread : ∀ i, i < len → ∃ zs : List Int, ∀ q, q < k → w.cell? (a.add (i * k + q)) = some (.int .i64 (gi zs q)) ∧ (Lit.int .i64 (gi zs q)).wf = true := by
     intro i hil
     obtain ⟨cs', hc, ht'⟩ := hi i (by rw [hmm]; simp; omega)
     rw [hC] at hc
     obtain ⟨zs, rfl, hw⟩ := hel _ _ _ ht'
     refine ⟨zs, fun q hq => ⟨?_, hw q hq⟩⟩
     obtain ⟨h1, h2, h3⟩ := World.cells?_some hc
     have h4 := h3 q hq
     have h5 : q < zs.length := by simp at h2; omega
     rw [map_gi h5] at h4
     have e1 : (a.add (i * k)).add q = a.add (i * k + q) := addr_add_add a _ _
     rw [← e1]
     exact h4
   have hex : ∃ f : Nat → List Int, ∀ i, i < len → ∀ q, q < k → w.cell? (a.add (i * k + q)) = some (.int .i64 (gi (f i) q)) ∧ (Lit.int .i64 (gi (f i) q)).wf = true :=
     ⟨fun i => if hil : i < len then (hread i hil).choose else [], fun i hil => by simp only [dif_pos hil]; exact (hread i hil).choose_spec⟩
   obtain ⟨f, hf⟩ := hex
   refine ⟨some a, len, cap, fun i q => gi (f i) q, rfl, hl, fun hp => ?_, fun i hi q hq => (hf i hi q hq).2⟩
   obtain ⟨b, o, sp⟩ := a
   have h0 := (hf 0 hp 0 hk).1
   have hsp : sp = none := by
     cases sp with
     | none => rfl
     | some s =>
       exfalso
       simp only [World.cell?, Addr.add] at h0
       split at h0 <;> simp at h0
   subst hsp
   refine ⟨b, o, rfl, cell_lt (p := ⟨b, o, none⟩) (by have h9 := h0; rw [add_lit] at h9; simpa using h9), fun i hil q hq => ?_⟩
   have h8 := (hf i hil q hq).1
   rw [add_lit, ← Nat.add_assoc] at h8
   exact h8
theorem cells3 {cs : List Value} {z0 z1 z2 : Int} (hl : cs.length = 3) (h0 : (cs.drop 0).take 1 = [.int .i64 z0]) (h1 : (cs.drop 1).take 1 = [.int .i64 z1]) (h2 : (cs.drop 2).take 1 = [.int .i64 z2]) : cs = [z0, z1, z2].map (Value.int .i64) := by
 match cs, hl with
 | [a, b, c], _ => simp at h0 h1 h2; simp [h0, h1, h2]
theorem cells4 {cs : List Value} {z0 z1 z2 z3 : Int} (hl : cs.length = 4) (h0 : (cs.drop 0).take 1 = [.int .i64 z0]) (h1 : (cs.drop 1).take 1 = [.int .i64 z1]) (h2 : (cs.drop 2).take 1 = [.int .i64 z2]) (h3 : (cs.drop 3).take 1 = [.int .i64 z3]) : cs = [z0, z1, z2, z3].map (Value.int .i64) := by
 match cs, hl with
 | [a, b, c, d], _ => simp at h0 h1 h2 h3; simp [h0, h1, h2, h3]
theorem gn_mk {n i : Nat} (h : i < n) (f : Nat → Sp.Nd) : gn ((List.range n).map f) i = f i := by
 rw [gn_lt (by simpa using h)]
 simp
theorem ge_mk {n i : Nat} (h : i < n) (f : Nat → Sp.Ed) : ge ((List.range n).map f) i = f i := by
 rw [ge_lt (by simpa using h)]
 simp
theorem gr_mk {A1 A2 : Option Addr} {n1 n2 : Nat} {g1 g2 : Nat → Nat → Int}
   (c1 : 0 < n1 → ∃ b o, A1 = some ⟨b, o, none⟩ ∧ b < w.heap.size ∧ ∀ i, i < n1 → ∀ q, q < 3 → w.cell? ⟨b, o + i * 3 + q, none⟩ = some (.int .i64 (g1 i q))) (w1 : ∀ i, i < n1 → ∀ q, q < 3 → (Lit.int .i64 (g1 i q)).wf = true)
   (c2 : 0 < n2 → ∃ b o, A2 = some ⟨b, o, none⟩ ∧ b < w.heap.size ∧ ∀ i, i < n2 → ∀ q, q < 4 → w.cell? ⟨b, o + i * 4 + q, none⟩ = some (.int .i64 (g2 i q))) (w2 : ∀ i, i < n2 → ∀ q, q < 4 → (Lit.int .i64 (g2 i q)).wf = true) :
   Gr w A1 n1 A2 n2 ((List.range n1).map (fun i => ⟨g1 i 0, g1 i 1, g1 i 2⟩)) ((List.range n2).map (fun i => ⟨g2 i 0, g2 i 1, g2 i 2, g2 i 3⟩)) := by
 refine ⟨⟨by simp, fun h => ?_⟩, ⟨by simp, fun h => ?_⟩, fun j hj => ?_, fun j hj => ?_⟩
 · obtain ⟨b, o, e, hl, hc⟩ := c1 h
   refine ⟨b, o, e, hl, fun i hi => ?_⟩
   rw [gn_mk hi]
   exact ⟨hc i hi 0 (by omega), hc i hi 1 (by omega), hc i hi 2 (by omega)⟩
 · obtain ⟨b, o, e, hl, hc⟩ := c2 h
   refine ⟨b, o, e, hl, fun i hi => ?_⟩
   rw [ge_mk hi]
   exact ⟨hc i hi 0 (by omega), hc i hi 1 (by omega), hc i hi 2 (by omega), hc i hi 3 (by omega)⟩
 · rw [gn_mk hj]
   exact w1 j hj 0 (by omega)
 · rw [ge_mk hj]
   exact ⟨w2 j hj 0 (by omega), w2 j hj 1 (by omega)⟩
end
end Go.Df
namespace Go.Proofs.YtincpmdldpakkaaDoor
open Go.RowKit Go.ChangeShapes Go.WideShapes Go.Joins Go.Df
theorem open_node {H : Type} {enc : TypeId × Value → H} {w : World} {base : Nat} {held : Bool} (n : Nat) (cs' : List Value) (y : DataW H × List MemPlace) (h : DataW.trod enc Tryd.prog w base (fun _ => true) held n 116 cs' = some y) : ∃ zs : List Int, cs' = zs.map (Value.int .i64) ∧ ∀ q, q < 3 → (Lit.int .i64 (gi zs q)).wf = true := by
 obtain ⟨y0, y1, y2, m, -, hl, h0, h1, h2⟩ := Go.Deep.trod_struct3 Tryd.underlying116 h
 obtain ⟨z0, e0, -, w0⟩ := DataW.trod_int Tryd.underlying3 h0
 obtain ⟨z1, e1, -, w1⟩ := DataW.trod_int Tryd.underlying3 h1
 obtain ⟨z2, e2, -, w2⟩ := DataW.trod_int Tryd.underlying3 h2
 have hc3 : Tryd.prog.cellsOf 116 = 3 := by kernel_rfl
 have hc1 : Tryd.prog.cellsOf 3 = 1 := by kernel_rfl
 rw [hc3] at hl
 dsimp only at e0 e1 e2
 rw [hc1] at e0 e1 e2
 refine ⟨[z0, z1, z2], cells3 hl e0 e1 e2, fun q hq => ?_⟩
 match q, hq with
 | 0, _ => exact w0
 | 1, _ => exact w1
 | 2, _ => exact w2
theorem open_edge {H : Type} {enc : TypeId × Value → H} {w : World} {base : Nat} {held : Bool} (n : Nat) (cs' : List Value) (y : DataW H × List MemPlace) (h : DataW.trod enc Tryd.prog w base (fun _ => true) held n 119 cs' = some y) : ∃ zs : List Int, cs' = zs.map (Value.int .i64) ∧ ∀ q, q < 4 → (Lit.int .i64 (gi zs q)).wf = true := by
 obtain ⟨y0, y1, y2, y3, m, -, hl, h0, h1, h2, h3⟩ := trod_struct4 Tryd.underlying119 h
 obtain ⟨z0, e0, -, w0⟩ := DataW.trod_int Tryd.underlying3 h0
 obtain ⟨z1, e1, -, w1⟩ := DataW.trod_int Tryd.underlying3 h1
 obtain ⟨z2, e2, -, w2⟩ := DataW.trod_int Tryd.underlying3 h2
 obtain ⟨z3, e3, -, w3⟩ := DataW.trod_int Tryd.underlying3 h3
 have hc3 : Tryd.prog.cellsOf 119 = 4 := by kernel_rfl
 have hc1 : Tryd.prog.cellsOf 3 = 1 := by kernel_rfl
 rw [hc3] at hl
 dsimp only at e0 e1 e2 e3
 rw [hc1] at e0 e1 e2 e3
 refine ⟨[z0, z1, z2, z3], cells4 hl e0 e1 e2 e3, fun q hq => ?_⟩
 match q, hq with
 | 0, _ => exact w0
 | 1, _ => exact w1
 | 2, _ => exact w2
 | 3, _ => exact w3
theorem open_gr {H : Type} {enc : TypeId × Value → H} {w : World} {base : Nat} {held : Bool} {f1 f2 : Nat} {v1 v2 : Value} {x1 x2 : DataW H × List MemPlace}
   (h1 : DataW.trod enc Tryd.prog w base (fun _ => true) held f1 22 [v1] = some x1) (h2 : DataW.trod enc Tryd.prog w base (fun _ => true) held f2 23 [v2] = some x2) :
   ∃ A1 n1 c1 A2 n2 c2 ns es, v1 = .slice A1 n1 c1 ∧ v2 = .slice A2 n2 c2 ∧ Gr w A1 n1 A2 n2 ns es := by
 obtain ⟨A1, n1, c1, g1, rfl, -, k1, w1⟩ := open_rowsI Tryd.underlying22 (k := 3) (by kernel_rfl) (by omega) open_node h1
 obtain ⟨A2, n2, c2, g2, rfl, -, k2, w2⟩ := open_rowsI Tryd.underlying23 (k := 4) (by kernel_rfl) (by omega) open_edge h2
 exact ⟨A1, n1, c1, A2, n2, c2, _, _, rfl, rfl, gr_mk k1 w1 k2 w2⟩
end Go.Proofs.YtincpmdldpakkaaDoor
namespace Go.Df
open Go.RowKit Go.ChangeShapes Go.WideShapes
section
variable {H : Type} {enc : TypeId × Value → H} {P : Program} {w : World} {base : Nat} {held : Bool}
theorem open_rowsC {t e : TypeId} {fuel : Nat} {v : Value} {x : DataW H × List MemPlace} (ht : P.underlying t = some (.slice e)) (hC : P.cellsOf e = 1)
   (h : DataW.trod enc P w base (fun _ => true) held fuel t [v] = some x) :
   ∃ A n c, v = .slice A n c ∧ n ≤ c ∧ (0 < n → ∃ b o, A = some ⟨b, o, none⟩ ∧ b < w.heap.size ∧ ∀ i, i < n → ∃ u m y, w.cell? ⟨b, o + i, none⟩ = some u ∧ DataW.trod enc P w base (fun _ => true) held m e [u] = some y) := by
 rcases Go.Deep.open_slice ht h with ⟨h0, _⟩ | ⟨a, len, cap, m, n, D, Pl, hcs, hbb, hl, hm, hmm, hx, hi⟩
 · injection h0 with h0
   exact ⟨none, 0, 0, h0, Nat.le_refl _, fun h => absurd h (by omega)⟩
 · injection hcs with hcs
   subst hcs
   have hread : ∀ i, i < len → ∃ u m y, w.cell? (a.add i) = some u ∧ DataW.trod enc P w base (fun _ => true) held m e [u] = some y := by
     intro i hil
     obtain ⟨cs', hc, ht'⟩ := hi i (by rw [hmm]; simp; omega)
     rw [hC] at hc
     obtain ⟨h1, h2, h3⟩ := World.cells?_some hc
     match cs', h2 with
     | [u], _ =>
       have h4 := h3 0 (by omega)
       rw [addr_add_add, Nat.mul_one] at h4
       exact ⟨u, _, _, h4, ht'⟩
   refine ⟨some a, len, cap, rfl, hl, fun hp => ?_⟩
   obtain ⟨b, o, sp⟩ := a
   obtain ⟨u0, m0, y0, h0, -⟩ := hread 0 hp
   have hsp : sp = none := by
     cases sp with
     | none => rfl
     | some s =>
       exfalso
       simp only [World.cell?, Addr.add] at h0
       split at h0 <;> simp at h0
   subst hsp
   refine ⟨b, o, rfl, cell_lt (p := ⟨b, o, none⟩) (by have h9 := h0; rw [add_lit] at h9; simpa using h9), fun i hil => ?_⟩
   obtain ⟨u, m1, y, h1, h2⟩ := hread i hil
   rw [add_lit] at h1
   exact ⟨u, m1, y, h1, h2⟩
end
theorem cells2 {cs : List Value} {z0 z1 : Int} (hl : cs.length = 2) (h0 : (cs.drop 0).take 1 = [.int .i64 z0]) (h1 : (cs.drop 1).take 1 = [.int .i64 z1]) : cs = [z0, z1].map (Value.int .i64) := by
 match cs, hl with
 | [a, b], _ => simp at h0 h1; simp [h0, h1]
theorem slice_len {H : Type} {enc : TypeId × Value → H} {P : Program} {w : World} {base : Nat} {held : Bool} {t e : TypeId} {fuel : Nat} {A : Option Addr} {n c : Nat} {x : DataW H × List MemPlace} (ht : P.underlying t = some (.slice e))
   (h : DataW.trod enc P w base (fun _ => true) held fuel t [.slice A n c] = some x) : n ≤ 9223372036854775807 := by
 rcases Go.Deep.open_slice ht h with ⟨h0, _⟩ | ⟨a, len, cap, m, k, D, Pl, hcs, hbb, hl, hm, hmm, hx, hi⟩
 · injection h0 with h0
   injection h0 with h1 h2 h3
   omega
 · injection hcs with hcs
   injection hcs with h1 h2 h3
   unfold maxLen at hm
   omega
end Go.Df
namespace Go.Proofs.YtincpmdldpakkaaDoor
open Go.RowKit Go.ChangeShapes Go.WideShapes Go.Joins Go.Df Go.Df.Iv
theorem hc1 : Tryd.prog.cellsOf 3 = 1 := by kernel_rfl
theorem hc1' : Tryd.prog.cellsOf 2 = 1 := by kernel_rfl
section
variable {H : Type} {enc : TypeId × Value → H} {w : World} {base : Nat} {held : Bool}
theorem open_xform (n : Nat) (cs' : List Value) (y : DataW H × List MemPlace) (h : DataW.trod enc Tryd.prog w base (fun _ => true) held n 50 cs' = some y) : ∃ z0 z1 z2 : Int, cs' = [z0, z1, z2].map (Value.int .i64) ∧ (Lit.int .i64 z0).wf = true ∧ (Lit.int .i64 z1).wf = true ∧ (Lit.int .i64 z2).wf = true ∧ y.1 = .agg [.lit (.int .i64 z0), .lit (.int .i64 z1), .lit (.int .i64 z2)] := by
 obtain ⟨y0, y1, y2, m, hx, hl, h0, h1, h2⟩ := Go.Deep.trod_struct3 Tryd.underlying50 h
 obtain ⟨z0, e0, f0, w0⟩ := DataW.trod_int Tryd.underlying3 h0
 obtain ⟨z1, e1, f1, w1⟩ := DataW.trod_int Tryd.underlying2 h1
 obtain ⟨z2, e2, f2, w2⟩ := DataW.trod_int Tryd.underlying2 h2
 have hc3 : Tryd.prog.cellsOf 50 = 3 := by kernel_rfl
 rw [hc3] at hl
 dsimp only at e0 e1 e2
 rw [hc1] at e0
 rw [hc1'] at e1 e2
 exact ⟨z0, z1, z2, cells3 hl e0 e1 e2, w0, w1, w2, by rw [hx, f0, f1, f2]⟩
end
theorem shiftNamed : Tryd.prog.globalNamed "dataflow/ide.shift" = some 0 := by kernel_rfl
theorem shiftType : (Tryd.prog.globals[0]?).map (·.type) = some 50 := by kernel_rfl
theorem gv_of_laid {W : World} (h : laidMetH Tryd.prog [("dataflow/ide.shift", Rows.laid_dataflow_ide_shift)] W) : Gv W := by
 have h' : laidMet Tryd.prog [("dataflow/ide.shift", Rows.laid_dataflow_ide_shift)] W := h
 obtain ⟨ps, ⟨g, t, cs, fuel, p, q, hg, ht, hvar, hd, _, _⟩, _⟩ := h'
 obtain rfl := Option.some.inj (shiftNamed.symm.trans hg)
 obtain rfl := Option.some.inj (shiftType.symm.trans ht)
 obtain ⟨z0, z1, z2, e, -, -, -, hy⟩ := open_xform _ _ _ hd
 have e0 : z0 = 2 ∧ z1 = 0 ∧ z2 = 0 := by
   simp [Rows.laid_dataflow_ide_shift] at hy
   omega
 obtain ⟨rfl, rfl, rfl⟩ := e0
 obtain ⟨l⟩ := cs
 have e' : l = [(2 : Int), 0, 0].map (Value.int .i64) := e
 subst e'
 have c0 := World.var?_cell hg hvar 0
 have c1 := World.var?_cell hg hvar 1
 have c2 := World.var?_cell hg hvar 2
 exact ⟨c0, c1, c2, cell_lt (p := ⟨0, 0, none⟩) c0⟩
noncomputable def laidWorld (os : Os) : World :=
 let w0 := World.holding Tryd.prog os ⟨#[], #[], []⟩
 { w0 with heap := w0.heap.modify 0 fun
     | .cells _ t frozen => .cells #[.int .i64 2, .int .i64 0, .int .i64 0] t frozen
     | o => o }
theorem laidWorld_met (os : Os) (args : Array Value) : laidMetH Tryd.prog [("dataflow/ide.shift", Rows.laid_dataflow_ide_shift)] ((laidWorld os).forCall (fun _ _ => 0) ⟨#[], args, []⟩).memory :=
 laidMetH_of_parts (laidMet_of_run' 8 (by kernel_rfl) (by kernel_rfl)) (by kernel_rfl)
end Go.Proofs.YtincpmdldpakkaaDoor
namespace Go.Df
namespace If
theorem gp_mk {n i : Nat} (h : i < n) (f : Nat → Pr) : gp ((List.range n).map f) i = f i := by simp [gp, h]
theorem gd_mk {n i : Nat} (h : i < n) (f : Nat → Sd) : gd ((List.range n).map f) i = f i := by simp [gd, h]
theorem gf_mk {n i : Nat} (h : i < n) (f : Nat → List Pr) : gf ((List.range n).map f) i = f i := by simp [gf, h]
end If
end Go.Df
namespace Go.Proofs.YtincpmdldpakkaaDoor
open Go.RowKit Go.ChangeShapes Go.WideShapes Go.Joins Go.Df Go.Df.If
section
variable {H : Type} {enc : TypeId × Value → H} {w : World} {base : Nat} {held : Bool}
theorem open_pair (n : Nat) (cs' : List Value) (y : DataW H × List MemPlace) (h : DataW.trod enc Tryd.prog w base (fun _ => true) held n 48 cs' = some y) : ∃ zs : List Int, cs' = zs.map (Value.int .i64) ∧ ∀ q, q < 2 → (Lit.int .i64 (gi zs q)).wf = true := by
 obtain ⟨y0, y1, m, hx, hl, h0, h1⟩ := Go.ChangeShapes.trod_struct2 Tryd.underlying48 h
 obtain ⟨z0, e0, f0, w0⟩ := DataW.trod_int Tryd.underlying3 h0
 obtain ⟨z1, e1, f1, w1⟩ := DataW.trod_int Tryd.underlying3 h1
 have hc3 : Tryd.prog.cellsOf 48 = 2 := by kernel_rfl
 rw [hc3] at hl
 dsimp only at e0 e1
 rw [hc1] at e0 e1
 refine ⟨[z0, z1], cells2 hl e0 e1, fun q hq => ?_⟩
 match q, hq with
 | 0, _ => exact w0
 | 1, _ => exact w1
theorem open_seed (n : Nat) (cs' : List Value) (y : DataW H × List MemPlace) (h : DataW.trod enc Tryd.prog w base (fun _ => true) held n 54 cs' = some y) : ∃ zs : List Int, cs' = zs.map (Value.int .i64) ∧ ∀ q, q < 2 → (Lit.int .i64 (gi zs q)).wf = true := by
 obtain ⟨y0, y1, m, hx, hl, h0, h1⟩ := Go.ChangeShapes.trod_struct2 Tryd.underlying54 h
 obtain ⟨z0, e0, f0, w0⟩ := DataW.trod_int Tryd.underlying3 h0
 obtain ⟨z1, e1, f1, w1⟩ := DataW.trod_int Tryd.underlying3 h1
 have hc3 : Tryd.prog.cellsOf 54 = 2 := by kernel_rfl
 rw [hc3] at hl
 dsimp only at e0 e1
 rw [hc1] at e0 e1
 refine ⟨[z0, z1], cells2 hl e0 e1, fun q hq => ?_⟩
 match q, hq with
 | 0, _ => exact w0
 | 1, _ => exact w1
theorem open_pflows {fuel : Nat} {v : Value} {x : DataW H × List MemPlace} (h : DataW.trod enc Tryd.prog w base (fun _ => true) held fuel 40 [v] = some x) : ∃ A n c ls, v = .slice A n c ∧ n ≤ c ∧ Flw w A n ls ∧ n ≤ 9223372036854775807 ∧ ∀ i, (gf ls i).length ≤ 9223372036854775807 := by
 obtain ⟨A, n, c, rfl, hnc, hrow⟩ := open_rowsC Tryd.underlying40 (by kernel_rfl) h
 have hex : ∀ i, ∃ l : List Pr, l.length ≤ 9223372036854775807 ∧ ∀ b o, A = some ⟨b, o, none⟩ → i < n → ∃ Ai ni ci, w.cell? ⟨b, o + i, none⟩ = some (.slice Ai ni ci) ∧ ni ≤ ci ∧ Prs w Ai ni l := by
   intro i
   by_cases hi : i < n
   · obtain ⟨b, o, rfl, hb, hc⟩ := hrow (by omega)
     obtain ⟨u, m, y, h1, h2⟩ := hc i hi
     obtain ⟨Ai, ni, ci, g, rfl, hni, k1, -⟩ := open_rowsI Tryd.underlying46 (k := 2) (by kernel_rfl) (by omega) open_pair h2
     have hln := slice_len Tryd.underlying46 h2
     refine ⟨(List.range ni).map (fun j => ⟨g j 0, g j 1⟩), by simpa using hln, fun b' o' e' _ => ?_⟩
     injection e' with e'
     injection e' with e1 e2
     subst e1 e2
     refine ⟨Ai, ni, ci, h1, hni, by simp, fun h0 => ?_⟩
     obtain ⟨b2, o2, rfl, hl2, hc2⟩ := k1 h0
     refine ⟨b2, o2, rfl, hl2, fun j hj => ?_⟩
     rw [gp_mk hj]
     exact ⟨hc2 j hj 0 (by omega), hc2 j hj 1 (by omega)⟩
   · exact ⟨[], by simp, fun _ _ _ h => absurd h hi⟩
 refine ⟨A, n, c, (List.range n).map (fun i => (hex i).choose), rfl, hnc, ⟨by simp, fun h0 => ?_⟩, slice_len Tryd.underlying40 h, fun i => ?_⟩
 rotate_left
 · by_cases hi : i < n
   · rw [gf_mk hi]; exact (hex i).choose_spec.1
   · rw [show gf ((List.range n).map (fun i => (hex i).choose)) i = [] by simp [gf, hi]]; simp
 obtain ⟨b, o, rfl, hb, -⟩ := hrow h0
 refine ⟨b, o, rfl, hb, fun i hi => ?_⟩
 rw [gf_mk hi]
 exact (hex i).choose_spec.2 b o rfl hi
theorem open_pseeds {fuel : Nat} {v : Value} {x : DataW H × List MemPlace} (h : DataW.trod enc Tryd.prog w base (fun _ => true) held fuel 41 [v] = some x) : ∃ A n c sd, v = .slice A n c ∧ n ≤ c ∧ n ≤ 9223372036854775807 ∧ Sds w A n sd := by
 obtain ⟨A, n, c, g, rfl, hnc, k1, -⟩ := open_rowsI Tryd.underlying41 (k := 2) (by kernel_rfl) (by omega) open_seed h
 have hn := slice_len Tryd.underlying41 h
 refine ⟨A, n, c, (List.range n).map (fun j => ⟨g j 0, g j 1⟩), rfl, hnc, hn, by simp, fun h0 => ?_⟩
 obtain ⟨b2, o2, rfl, hl2, hc2⟩ := k1 h0
 refine ⟨b2, o2, rfl, hl2, fun j hj => ?_⟩
 rw [gd_mk hj]
 exact ⟨hc2 j hj 0 (by omega), hc2 j hj 1 (by omega)⟩
set_option maxRecDepth 100000 in
/-- A problem that came in. -/
theorem open_pb {r : Reach} {b0 : Nat} {v : Value} {d : DataW H} {p : List MemPlace} (hv : Value.okWide Tryd.prog w r b0 43 v) (h : DataW.Trod enc Tryd.prog w base (fun _ => true) held 43 v d p) :
   ∃ A1 n1 c1 A2 n2 c2 mn F A3 n3 c3 A4 n4 c4 ns es ls sd, v = .agg #[.slice A1 n1 c1, .slice A2 n2 c2, .int .i64 mn, .int .i64 F, .slice A3 n3 c3, .slice A4 n4 c4] ∧ Gr w A1 n1 A2 n2 ns es ∧ Flw w A3 n3 ls ∧ Sds w A4 n4 sd ∧ n4 ≤ 9223372036854775807 ∧ n3 ≤ 9223372036854775807 ∧ ∀ i, (gf ls i).length ≤ 9223372036854775807 := by
 obtain ⟨cs, rfl, hsz⟩ := okWide_struct Tryd.underlying43 hv
 have hC : Tryd.prog.cellsOf 43 = 6 := by kernel_rfl
 have hS : Tryd.prog.cellsOf 25 = 3 := by kernel_rfl
 have hF : Tryd.prog.cellsOf 40 = 1 := by kernel_rfl
 have hV : Tryd.prog.cellsOf 41 = 1 := by kernel_rfl
 have hN : Tryd.prog.cellsOf 22 = 1 := by kernel_rfl
 have hE : Tryd.prog.cellsOf 23 = 1 := by kernel_rfl
 rw [hC] at hsz
 obtain ⟨l⟩ := cs
 match l, hsz with
 | [v0, v1, v2, v3, v4, v5], _ =>
 obtain ⟨fuel, hf⟩ := h
 obtain ⟨y0, y1, y2, y3, m, -, -, h0, h1, h2, h3⟩ := trod_struct4 Tryd.underlying43 hf
 simp only [Value.cells, hS, hc1, hF, hV, List.drop_zero, List.drop_succ_cons, List.take_succ_cons, List.take_zero] at h0 h1 h2 h3
 obtain ⟨x0, x1, x2, m', -, -, g0, g1, g2⟩ := Go.Deep.trod_struct3 Tryd.underlying25 h0
 simp only [hN, hE, hc1, List.drop_zero, List.drop_succ_cons, List.take_succ_cons, List.take_zero] at g0 g1 g2
 obtain ⟨A1, n1, c1, A2, n2, c2, ns, es, rfl, rfl, hg⟩ := open_gr g0 g1
 obtain ⟨mn, e2, -, -⟩ := DataW.trod_int Tryd.underlying3 g2
 injection e2 with e2
 subst e2
 obtain ⟨F, e3, -, -⟩ := DataW.trod_int Tryd.underlying3 h1
 injection e3 with e3
 subst e3
 obtain ⟨A3, n3, c3, ls, rfl, hn3, hfl, hl3, hrl⟩ := open_pflows h2
 obtain ⟨A4, n4, c4, sd, rfl, hnc, hn4, hsd⟩ := open_pseeds h3
 exact ⟨A1, n1, c1, A2, n2, c2, mn, F, A3, n3, c3, A4, n4, c4, ns, es, ls, sd, rfl, hg, hfl, hsd, hn4, hl3, hrl⟩
end
end Go.Proofs.YtincpmdldpakkaaDoor
namespace Go.Proofs.YtincpmdldpakkaaDoor
open Go.RowKit
theorem Tryd.own : ownKnob Tryd.prog.godebug = none := by kernel_rfl
theorem Tryd.closed : (List.range Tryd.prog.types.size).all (Go.Df.closedB Tryd.prog Tryd.prog.types.size) = true := by kernel_rfl
end Go.Proofs.YtincpmdldpakkaaDoor
