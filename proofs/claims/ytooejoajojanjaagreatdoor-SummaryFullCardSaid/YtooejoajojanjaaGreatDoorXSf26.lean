/- Texts: Zm. -/
import Derived.Test.YtooejoajojanjaaGreatDoorXSf22
namespace Go.Proofs.YtooejoajojanjaaGreatDoor
open Go.RowKit Go.Df Go.Df.If
attribute [local go_sem ↓] Go.wp_at_zero Go.wp_at_succ
def GetNew (p : Pb) (kv : Value) (w : World) (e : Ending) (w' : World) : Prop := ∃ K g O G, e = .returned (.pointer (some ⟨g, 0, none⟩)) ∧ K.kv = kv ∧ Inp p K w ∧ Mem p K w g O G w' noSt
set_option maxRecDepth 100000 in
set_option maxHeartbeats 100000000 in
theorem newSolver_any {p : Pb} (kr : Option Nat) (A1 A2 A3 A4 : Option Addr) (n1 c1 n2 c2 n3 c3 n4 c4 : Nat) (mN : Nat) (F : Int) (w : World) (hmn : p.mn = mN) (hF : p.F = F) (hnd : Nds w A1 n1 p.ns) (hed : Eds w A2 n2 p.es) (hfl : Flw w A3 n3 p.fl) (hsd : Sds w A4 n4 p.sd) (ho : Ok p) (hn4 : n4 ≤ 1000000) :
   Calls Tryz.prog 50 #[.agg #[.slice A1 n1 c1, .slice A2 n2 c2, .int .i64 mN, .int .i64 F, .slice A3 n3 c3, .slice A4 n4 c4], .map kr] w (GetNew p (.map kr) w) := by
 have hN2 : n1 ≤ 8192 := by have := (sup_parts ho.sup).1; have := hnd.1; omega
 have hE2 : n2 ≤ 32768 := by have := (sup_parts ho.sup).2.1; have := hed.1; omega
 have HMN := Lib.hid hmn
 have HF := Lib.hid hF
 have HND := Lib.hid hnd
 have HED := Lib.hid hed
 have HFL := Lib.hid hfl
 have HSD := Lib.hid hsd
 have HO := Lib.hid ho
 obtain ⟨MI, hMI⟩ : ∃ M, (List.replicate n1 (Value.int .i64 0)).toArray = M := ⟨_, rfl⟩
 obtain ⟨MR, hMR⟩ : ∃ M, (List.replicate n1 (Value.slice none 0 0)).toArray = M := ⟨_, rfl⟩
 obtain ⟨MM, hMM⟩ : ∃ M, (List.replicate n1 (Value.map none)).toArray = M := ⟨_, rfl⟩
 obtain ⟨ME, hME⟩ : ∃ M, (List.replicate n2 (Value.map none)).toArray = M := ⟨_, rfl⟩
 obtain ⟨MP, hMP⟩ : ∃ M, (List.replicate n1 (Value.slice none 0 0)).toArray = M := ⟨_, rfl⟩
 obtain ⟨i1, j1, j2, j3, j4⟩ := info_parts int_info
 obtain ⟨i2, l1, l2, l3, l4⟩ := info_parts row_info
 obtain ⟨i3, m1, m2, m3, m4⟩ := info_parts prow_info
 obtain ⟨i4, p1, p2, p3, p4⟩ := info_parts map_info
 have hmkM := fun w => run_make1 (P := Tryz.prog) Tryz.underlying150 p1 p2 p3 p4 rfl n1 (by omega) (by omega) MM hMM w
 have hmkE := fun w => run_make1 (P := Tryz.prog) Tryz.underlying150 p1 p2 p3 p4 rfl n2 (by omega) (by omega) ME hME w
 have hmkI := fun w => run_make1 (P := Tryz.prog) Tryz.underlying31 j1 j2 j3 j4 rfl n1 (by omega) (by omega) MI hMI w
 have hmkR := fun w => run_make1 (P := Tryz.prog) Tryz.underlying52 l1 l2 l3 l4 rfl n1 (by omega) (by omega) MR hMR w
 have hmkP := fun w => run_make1 (P := Tryz.prog) Tryz.underlying62 m1 m2 m3 m4 rfl n1 (by omega) (by omega) MP hMP w
 have HMI := Lib.hid hMI
 have HMR := Lib.hid hMR
 have HMM := Lib.hid hMM
 have HME := Lib.hid hME
 have HMP := Lib.hid hMP
 clear hMI hMR hMM hME hMP hmn hF hnd hed hfl hsd ho
 go_enter Tryz.func50, Tryz.ntmps50
 go_upto_region 1 with fail
 refine wp_named (fun W => ∃ b0, w.heap.size = b0 ∧ Blk W b0 [.slice A1 n1 c1, .slice A2 n2 c2, .int .i64 mN, .int .i64 F, .slice A3 n3 c3, .slice A4 n4 c4] ∧ Below w.heap.size w W) ⟨_, rfl, ?_, ?_⟩ ?_
 · exact kbn
 · go_grown
 rintro W ⟨b0, e0, B0, hB⟩
 rw [e0]
 have G0 : w.heap.size ≤ b0 := by omega
 clear e0
 have ⟨L0, C0, F0⟩ := B0
 go_upto_region 2 with fail
 refine wp_region_E 23 (fun w' => SX0 W w') (by kernel_rfl) (by (exact kp0)) (fun hHeld => ?_)
 refine WE_tk 0 ?_
 refine WE_tk 1 ?_
 refine WE_tk 2 ?_
 refine WE_tk 4 ?_
 refine WE_tk 6 ?_
 refine WE_tk 8 ?_
 refine WE_tk 10 ?_
 refine WE_tk 12 ?_
 refine WE_tk 14 ?_
 refine WE_tk 15 ?_
 refine WE_tk 16 ?_
 refine WE_tk 17 ?_
 refine WE_tk 19 ?_
 refine WE_R [3, 5, 7, 9, 11, 13, 18, 20, 21, 22] (fun j v w t => match j with | 3 => ∃ g, v = .slice (some ⟨g, 0, none⟩) n1 n1 ∧ ObjT w t g (.cells MI 3 (0, 0)) 1 ∧ W.heap.size ≤ g | 5 => ∃ g, v = .slice (some ⟨g, 0, none⟩) n1 n1 ∧ ObjT w t g (.cells MR 31 (0, 0)) 2 ∧ W.heap.size ≤ g | 7 => ∃ g, v = .slice (some ⟨g, 0, none⟩) n1 n1 ∧ ObjT w t g (.cells MR 31 (0, 0)) 3 ∧ W.heap.size ≤ g | 9 => ∃ g, v = .slice (some ⟨g, 0, none⟩) n1 n1 ∧ ObjT w t g (.cells MR 31 (0, 0)) 4 ∧ W.heap.size ≤ g | 11 => ∃ g, v = .slice (some ⟨g, 0, none⟩) n1 n1 ∧ ObjT w t g (.cells MR 31 (0, 0)) 5 ∧ W.heap.size ≤ g | 13 => ∃ g, v = .slice (some ⟨g, 0, none⟩) n1 n1 ∧ ObjT w t g (.cells MM 157 (0, 0)) 6 ∧ W.heap.size ≤ g | 18 => ∃ g, v = .slice (some ⟨g, 0, none⟩) n2 n2 ∧ ObjT w t g (.cells ME 157 (0, 0)) 7 ∧ W.heap.size ≤ g | 20 => ∃ g, v = .slice (some ⟨g, 0, none⟩) n1 n1 ∧ ObjT w t g (.cells MP 28 (0, 0)) 8 ∧ W.heap.size ≤ g | 21 => ∃ g2 g4 g6 g8 g10 g12 g17 g19, v = .agg #[.slice A1 n1 c1, .slice A2 n2 c2, .int .i64 mN, .int .i64 F, .slice A3 n3 c3, .slice A4 n4 c4, .map kr, .slice (some ⟨g2, 0, none⟩) n1 n1, .slice (some ⟨g4, 0, none⟩) n1 n1, .slice (some ⟨g6, 0, none⟩) n1 n1, .slice (some ⟨g8, 0, none⟩) n1 n1, .slice (some ⟨g10, 0, none⟩) n1 n1, .slice (some ⟨g12, 0, none⟩) n1 n1, .slice (some ⟨g17, 0, none⟩) n2 n2, .slice (some ⟨g19, 0, none⟩) n1 n1, .slice none 0 0, .slice none 0 0] ∧ Pcs W.heap.size (.cells MI 3 (0, 0)) (.cells MR 31 (0, 0)) (.cells MM 157 (0, 0)) (.cells ME 157 (0, 0)) (.cells MP 28 (0, 0)) w t g2 g4 g6 g8 g10 g12 g17 g19 | 22 => ∃ g g2 g4 g6 g8 g10 g12 g17 g19, v = .pointer (some ⟨g, 0, none⟩) ∧ ObjT w t g (.cells #[.slice A1 n1 c1, .slice A2 n2 c2, .int .i64 mN, .int .i64 F, .slice A3 n3 c3, .slice A4 n4 c4, .map kr, .slice (some ⟨g2, 0, none⟩) n1 n1, .slice (some ⟨g4, 0, none⟩) n1 n1, .slice (some ⟨g6, 0, none⟩) n1 n1, .slice (some ⟨g8, 0, none⟩) n1 n1, .slice (some ⟨g10, 0, none⟩) n1 n1, .slice (some ⟨g12, 0, none⟩) n1 n1, .slice (some ⟨g17, 0, none⟩) n2 n2, .slice (some ⟨g19, 0, none⟩) n1 n1, .slice none 0 0, .slice none 0 0] 154 (0, 0)) 9 ∧ Pcs W.heap.size (.cells MI 3 (0, 0)) (.cells MR 31 (0, 0)) (.cells MM 157 (0, 0)) (.cells ME 157 (0, 0)) (.cells MP 28 (0, 0)) w t g2 g4 g6 g8 g10 g12 g17 g19 ∧ W.heap.size ≤ g | _ => False) rfl (by kernel_rfl) (fun vs => by simp only [putU, dstOf, Option.bind, List.getElem?_cons_zero, List.getElem?_cons_succ, Act.put, List.setIfInBounds_toArray, List.set_cons_zero, List.set_cons_succ]; rfl) ?_ ?_ ?_ ?_
 · intro j hj
   simp only [List.mem_cons, List.not_mem_nil, or_false] at hj
   rcases hj with rfl | rfl | rfl | rfl | rfl | rfl | rfl | rfl | rfl | rfl
   all_goals (intro v w t w' t' h hg; revert h; (repeat' first | (with_reducible exact id) | (exact fun h => BlkT.grow h hg) | (exact fun h => ObjT.grow h hg) | (exact fun h => Pcs.grow h hg) | (exact fun h => Pcv.grow h hg) | (exact fun h => hg.1.blk (by simp) h) | (exact fun h => Nat.lt_of_lt_of_le h hg.1.size) | (refine Exists.imp (fun _ => ?_)) | (refine And.imp ?_ ?_)))
 · intro w9 t9 hg9; (have hHeld9 := keptTrans hHeld.1 hg9.1); exact SX0.of hHeld9
 · refine ⟨?_, ?_, ?_, ?_, ?_, ?_, ?_, ?_, ?_, ?_, trivial⟩
   · refine ⟨_, _, rfl, [], by kernel_rfl, fun vs w t hg hyp K hK => ?_⟩
     (try dsimp only)
     have hHg := keptTrans hHeld.1 hg.1
     have hHs := SX0.of hHg
     go_simp
     refine hK.out ?_ _ _ (Go.Df.mark t w.heap.size 1) ?_ ?_ ?_
     rotate_left
     · simp only [Act.put, List.setIfInBounds_toArray, List.set_cons_zero, List.set_cons_succ]; rfl
     · exact Grow.mark ((Kept.refl _ _).alloc _) (Nat.le_refl _)
     · exact ⟨_, rfl, ObjT.new _ _ _ _, hHg.size⟩
   · refine ⟨_, _, rfl, [], by kernel_rfl, fun vs w t hg hyp K hK => ?_⟩
     (try dsimp only)
     have hHg := keptTrans hHeld.1 hg.1
     have hHs := SX0.of hHg
     go_simp
     refine hK.out ?_ _ _ (Go.Df.mark t w.heap.size 2) ?_ ?_ ?_
     rotate_left
     · simp only [Act.put, List.setIfInBounds_toArray, List.set_cons_zero, List.set_cons_succ]; rfl
     · exact Grow.mark ((Kept.refl _ _).alloc _) (Nat.le_refl _)
     · exact ⟨_, rfl, ObjT.new _ _ _ _, hHg.size⟩
   · refine ⟨_, _, rfl, [], by kernel_rfl, fun vs w t hg hyp K hK => ?_⟩
     (try dsimp only)
     have hHg := keptTrans hHeld.1 hg.1
     have hHs := SX0.of hHg
     go_simp
     refine hK.out ?_ _ _ (Go.Df.mark t w.heap.size 3) ?_ ?_ ?_
     rotate_left
     · simp only [Act.put, List.setIfInBounds_toArray, List.set_cons_zero, List.set_cons_succ]; rfl
     · exact Grow.mark ((Kept.refl _ _).alloc _) (Nat.le_refl _)
     · exact ⟨_, rfl, ObjT.new _ _ _ _, hHg.size⟩
   · refine ⟨_, _, rfl, [], by kernel_rfl, fun vs w t hg hyp K hK => ?_⟩
     (try dsimp only)
     have hHg := keptTrans hHeld.1 hg.1
     have hHs := SX0.of hHg
     go_simp
     refine hK.out ?_ _ _ (Go.Df.mark t w.heap.size 4) ?_ ?_ ?_
     rotate_left
     · simp only [Act.put, List.setIfInBounds_toArray, List.set_cons_zero, List.set_cons_succ]; rfl
     · exact Grow.mark ((Kept.refl _ _).alloc _) (Nat.le_refl _)
     · exact ⟨_, rfl, ObjT.new _ _ _ _, hHg.size⟩
   · refine ⟨_, _, rfl, [], by kernel_rfl, fun vs w t hg hyp K hK => ?_⟩
     (try dsimp only)
     have hHg := keptTrans hHeld.1 hg.1
     have hHs := SX0.of hHg
     go_simp
     refine hK.out ?_ _ _ (Go.Df.mark t w.heap.size 5) ?_ ?_ ?_
     rotate_left
     · simp only [Act.put, List.setIfInBounds_toArray, List.set_cons_zero, List.set_cons_succ]; rfl
     · exact Grow.mark ((Kept.refl _ _).alloc _) (Nat.le_refl _)
     · exact ⟨_, rfl, ObjT.new _ _ _ _, hHg.size⟩
   · refine ⟨_, _, rfl, [], by kernel_rfl, fun vs w t hg hyp K hK => ?_⟩
     (try dsimp only)
     have hHg := keptTrans hHeld.1 hg.1
     have hHs := SX0.of hHg
     go_simp
     refine hK.out ?_ _ _ (Go.Df.mark t w.heap.size 6) ?_ ?_ ?_
     rotate_left
     · simp only [Act.put, List.setIfInBounds_toArray, List.set_cons_zero, List.set_cons_succ]; rfl
     · exact Grow.mark ((Kept.refl _ _).alloc _) (Nat.le_refl _)
     · exact ⟨_, rfl, ObjT.new _ _ _ _, hHg.size⟩
   · refine ⟨_, _, rfl, [], by kernel_rfl, fun vs w t hg hyp K hK => ?_⟩
     (try dsimp only)
     have hHg := keptTrans hHeld.1 hg.1
     have hHs := SX0.of hHg
     go_simp
     refine hK.out ?_ _ _ (Go.Df.mark t w.heap.size 7) ?_ ?_ ?_
     rotate_left
     · simp only [Act.put, List.setIfInBounds_toArray, List.set_cons_zero, List.set_cons_succ]; rfl
     · exact Grow.mark ((Kept.refl _ _).alloc _) (Nat.le_refl _)
     · exact ⟨_, rfl, ObjT.new _ _ _ _, hHg.size⟩
   · refine ⟨_, _, rfl, [], by kernel_rfl, fun vs w t hg hyp K hK => ?_⟩
     (try dsimp only)
     have hHg := keptTrans hHeld.1 hg.1
     have hHs := SX0.of hHg
     go_simp
     refine hK.out ?_ _ _ (Go.Df.mark t w.heap.size 8) ?_ ?_ ?_
     rotate_left
     · simp only [Act.put, List.setIfInBounds_toArray, List.set_cons_zero, List.set_cons_succ]; rfl
     · exact Grow.mark ((Kept.refl _ _).alloc _) (Nat.le_refl _)
     · exact ⟨_, rfl, ObjT.new _ _ _ _, hHg.size⟩
   · refine ⟨_, _, rfl, [3, 5, 7, 9, 11, 13, 18, 20], by kernel_rfl, fun vs w t hg hyp K hK => ?_⟩
     (try dsimp only)
     dsimp only [HypsR] at hyp
     obtain ⟨⟨g2, hx3, hg2⟩, ⟨g4, hx5, hg4⟩, ⟨g6, hx7, hg6⟩, ⟨g8, hx9, hg8⟩, ⟨g10, hx11, hg10⟩, ⟨g12, hx13, hg12⟩, ⟨g17, hx18, hg17⟩, ⟨g19, hx20, hg19⟩, -⟩ := hyp
     have hHg := keptTrans hHeld.1 hg.1
     have hHs := SX0.of hHg
     go_simp
     refine hK.out ?_ _ _ t ?_ ?_ ?_
     rotate_left
     · simp only [Act.put, List.setIfInBounds_toArray, List.set_cons_zero, List.set_cons_succ, hx3, hx5, hx7, hx9, hx11, hx13, hx18, hx20]; rfl
     · exact Grow.refl _ _
     · exact ⟨g2, g4, g6, g8, g10, g12, g17, g19, rfl, ⟨hg2, hg4, hg6, hg8, hg10, hg12, hg17, hg19⟩⟩
   · refine ⟨_, _, rfl, [21], by kernel_rfl, fun vs w t hg hyp K hK => ?_⟩
     (try dsimp only)
     dsimp only [HypsR] at hyp
     obtain ⟨⟨g2, g4, g6, g8, g10, g12, g17, g19, hx21, PC⟩, -⟩ := hyp
     have hHg := keptTrans hHeld.1 hg.1
     have hHs := SX0.of hHg
     go_simp
     refine hK.out ?_ _ _ (Go.Df.mark t w.heap.size 9) ?_ ?_ ?_
     rotate_left
     · simp only [Act.put, List.setIfInBounds_toArray, List.set_cons_zero, List.set_cons_succ, hx21]; rfl
     · exact Grow.mark ((Kept.refl _ _).alloc _) (Nat.le_refl _)
     · exact ⟨_, g2, g4, g6, g8, g10, g12, g17, g19, rfl, ObjT.new _ _ _ _, PC.grow (Grow.mark ((Kept.refl _ _).alloc _) (Nat.le_refl _)), hHg.size⟩
 intro vs wz tz hgz hyp K hK
 (try dsimp only)
 dsimp only [HypsR] at hyp
 generalize vs 3 = x3 at hyp ⊢
 generalize vs 5 = x5 at hyp ⊢
 generalize vs 7 = x7 at hyp ⊢
 generalize vs 9 = x9 at hyp ⊢
 generalize vs 11 = x11 at hyp ⊢
 generalize vs 13 = x13 at hyp ⊢
 generalize vs 18 = x18 at hyp ⊢
 generalize vs 20 = x20 at hyp ⊢
 generalize vs 21 = x21 at hyp ⊢
 generalize vs 22 = x22 at hyp ⊢
 obtain ⟨-, -, -, -, -, -, -, -, -, ⟨g, g2, g4, g6, g8, g10, g12, g17, g19, rfl, BG, PC, hgW⟩, -⟩ := hyp
 have hHz := keptTrans hHeld.1 hgz.1
 clear hHeld
 skip
 go_simp
 refine hK.out _ _ ?_
 clear hK K
 refine then_named (fun V => ∃ t, ObjT V t g (.cells #[.slice A1 n1 c1, .slice A2 n2 c2, .int .i64 mN, .int .i64 F, .slice A3 n3 c3, .slice A4 n4 c4, .map kr, .slice (some ⟨g2, 0, none⟩) n1 n1, .slice (some ⟨g4, 0, none⟩) n1 n1, .slice (some ⟨g6, 0, none⟩) n1 n1, .slice (some ⟨g8, 0, none⟩) n1 n1, .slice (some ⟨g10, 0, none⟩) n1 n1, .slice (some ⟨g12, 0, none⟩) n1 n1, .slice (some ⟨g17, 0, none⟩) n2 n2, .slice (some ⟨g19, 0, none⟩) n1 n1, .slice none 0 0, .slice none 0 0] 154 (0, 0)) 9 ∧ Pcs W.heap.size (.cells MI 3 (0, 0)) (.cells MR 31 (0, 0)) (.cells MM 157 (0, 0)) (.cells ME 157 (0, 0)) (.cells MP 28 (0, 0)) V t g2 g4 g6 g8 g10 g12 g17 g19 ∧ Kept [] W V) ⟨tz, BG, PC, hHz⟩ ?_
 rintro V ⟨t, BGv, PCv, hkV⟩
 have HBG := Lib.hid BGv
 have HPC := Lib.hid PCv
 have hWg := hgW
 have BV : Blk V g [.slice A1 n1 c1, .slice A2 n2 c2, .int .i64 mN, .int .i64 F, .slice A3 n3 c3, .slice A4 n4 c4, .map kr, .slice (some ⟨g2, 0, none⟩) n1 n1, .slice (some ⟨g4, 0, none⟩) n1 n1, .slice (some ⟨g6, 0, none⟩) n1 n1, .slice (some ⟨g8, 0, none⟩) n1 n1, .slice (some ⟨g10, 0, none⟩) n1 n1, .slice (some ⟨g12, 0, none⟩) n1 n1, .slice (some ⟨g17, 0, none⟩) n2 n2, .slice (some ⟨g19, 0, none⟩) n1 n1, .slice none 0 0, .slice none 0 0] := blk_of_obj BGv.heap
 have ⟨LV, CV, FV⟩ := BV
 have HBV := Lib.hid BV
 clear BGv PCv BG PC hHz hgz C0 F0 hmkI hmkR hmkP hmkM hmkE BV
 go_upto_region 4 with (go_at_call 88; refine (new_ok none 0 0 [] _ ⟨rfl, fun h => absurd h (by omega)⟩ (by omega) (fun _ => rfl)).mono ?_; rintro e w1 ⟨rA, rn, rc, qA, qn, qc, rfl, hr1, hq1, hb1, hfr1, hfq1⟩; have ⟨LV1, CV1, FV1⟩ := (HBV.out.later hb1))
 obtain rfl : rn = 0 := hr1.1.1.symm
 obtain rfl : qn = 0 := hq1.1.1.symm
 refine wp_named (fun X => Kept [g] w1 X ∧ Blk X g [.slice A1 n1 c1, .slice A2 n2 c2, .int .i64 mN, .int .i64 F, .slice A3 n3 c3, .slice A4 n4 c4, .map kr, .slice (some ⟨g2, 0, none⟩) n1 n1, .slice (some ⟨g4, 0, none⟩) n1 n1, .slice (some ⟨g6, 0, none⟩) n1 n1, .slice (some ⟨g8, 0, none⟩) n1 n1, .slice (some ⟨g10, 0, none⟩) n1 n1, .slice (some ⟨g12, 0, none⟩) n1 n1, .slice (some ⟨g17, 0, none⟩) n2 n2, .slice (some ⟨g19, 0, none⟩) n1 n1, .slice rA 0 rc, .slice qA 0 qc]) ⟨((Kept.refl [g] w1).set g 15 _ (.inl (by simp))).set g 16 _ (.inl (by simp)), ((HBV.out.later hb1).set 15 _).set 16 _⟩ ?_
 rintro V3 ⟨hk3, BX⟩
 have hkWV : Kept [] W w1 := hkV.call hb1
 have hgw1 : g < w1.heap.size := Nat.lt_of_lt_of_le HBV.out.1 hb1.size
 have hkW3 : Kept [] W V3 := kept_fresh hkWV hk3 (by simpa using hWg)
 have hk03 : Kept [g] V V3 := Kept.next (keptWide ((Kept.refl [] V).call hb1) (by simp)) hk3 (fun y hy => .inl hy)
 have O2 := Lib.hid ((hk03.block g2 HPC.out.h2.1.lt (by simpa using HPC.out.h2.1.ne HBG.out (by decide))).trans HPC.out.h2.1.heap)
 have O4 := Lib.hid ((hk03.block g4 HPC.out.h4.1.lt (by simpa using HPC.out.h4.1.ne HBG.out (by decide))).trans HPC.out.h4.1.heap)
 have O6 := Lib.hid ((hk03.block g6 HPC.out.h6.1.lt (by simpa using HPC.out.h6.1.ne HBG.out (by decide))).trans HPC.out.h6.1.heap)
 have O8 := Lib.hid ((hk03.block g8 HPC.out.h8.1.lt (by simpa using HPC.out.h8.1.ne HBG.out (by decide))).trans HPC.out.h8.1.heap)
 have O10 := Lib.hid ((hk03.block g10 HPC.out.h10.1.lt (by simpa using HPC.out.h10.1.ne HBG.out (by decide))).trans HPC.out.h10.1.heap)
 have O12 := Lib.hid ((hk03.block g12 HPC.out.h12.1.lt (by simpa using HPC.out.h12.1.ne HBG.out (by decide))).trans HPC.out.h12.1.heap)
 have O17 := Lib.hid ((hk03.block g17 HPC.out.h17.1.lt (by simpa using HPC.out.h17.1.ne HBG.out (by decide))).trans HPC.out.h17.1.heap)
 have O19 := Lib.hid ((hk03.block g19 HPC.out.h19.1.lt (by simpa using HPC.out.h19.1.ne HBG.out (by decide))).trans HPC.out.h19.1.heap)
 have HBX := Lib.hid BX
 have HR1 : Hid (SIn V3 rA 0 rc []) := Lib.hid (by exact ⟨⟨rfl, fun h => absurd h (by omega)⟩, hr1.2⟩)
 have HQ1 : Hid (SIn V3 qA 0 qc []) := Lib.hid (by exact ⟨⟨rfl, fun h => absurd h (by omega)⟩, hq1.2⟩)
 have B03 := Lib.hid (hkW3.blk (by simp) B0)
 have hb0W := B0.1
 have hg2W := HPC.out.h2.2
 have hg2g : g2 ≠ g := HPC.out.h2.1.ne HBG.out (by decide)
 have hg2b : g2 ≠ b0 := by omega
 have hg12W := HPC.out.h12.2
 have hg12g : g12 ≠ g := HPC.out.h12.1.ne HBG.out (by decide)
 have hg2g12 : g2 ≠ g12 := HPC.out.h2.1.ne HPC.out.h12.1 (by decide)
 have hgA : g ∉ [g2, g12] := by simp [hg2g.symm, hg12g.symm]
 have hb0A : b0 ∉ [g2, g12] := by have h1 : b0 ≠ g2 := by omega
                                  have h2 : b0 ≠ g12 := by omega
                                  simp [h1, h2]
 have hmm := @run_makeMap Tryz.prog
 have hrep : ∀ (m : Nat) (n : Nat), n < m → ((List.replicate m (Value.map none)).toArray)[n]? = some (Value.map none) := fun m n hn => rep_at hn
 have l12 : g12 < V3.heap.size := (Array.getElem?_eq_some_iff.1 O12.out).1
 have l17 : g17 < V3.heap.size := (Array.getElem?_eq_some_iff.1 O17.out).1
 have T0 : Hid (TbB V3 g12 n1 (fun _ => none) (fun _ => 0) (fun _ _ => .slice none 0 0)) := Lib.hid ⟨⟨MM, O12.out, by rw [← HMM.out]; simp, fun n hn => by rw [← HMM.out]; exact hrep _ _ hn⟩, fun _ _ _ h => (by cases h), fun _ _ _ _ => rfl, fun _ _ _ _ _ h => (by cases h)⟩
 have TE0 : Hid (TbB V3 g17 n2 (fun _ => none) (fun _ => 0) (fun _ _ => .slice none 0 0)) := Lib.hid ⟨⟨ME, O17.out, by rw [← HME.out]; simp, fun n hn => by rw [← HME.out]; exact hrep _ _ hn⟩, fun _ _ _ h => (by cases h), fun _ _ _ _ => rfl, fun _ _ _ _ _ h => (by cases h)⟩
 clear hrep
 have hkw3 : Kept [] w V3 := keptTrans ((Kept.refl _ _).call hB) hkW3
 have I0 : Hid (IntA V3 g2 n1 (fun x => if x < 0 then stOf p.ns x else 0)) := Lib.hid ⟨(Array.getElem?_eq_some_iff.1 O2.out).1, fun x hx => by have h9 := rep_at (v := Value.int .i64 0) hx; rw [HMI.out] at h9; simpa [World.cell?, O2.out] using h9, fun x => by simp [World.frozen?, O2.out]⟩
 clear CV FV CV1 FV1 hk3 hr1 hq1 hfr1 hfq1 hkV hkWV BX hk03
 have ⟨LX3, CX3, FX3⟩ := HBX.out
 have ⟨L03, C03, F03⟩ := B03.out
 go_wp2_with fail
 go_loopw [7, 52] (fun s7 s52 wr => ∃ (i a : Nat) (hm : Nat → Option Nat), i ≤ n1 ∧ s7 = .int .i64 a ∧ s52 = .int .i64 i ∧ Kept [g2, g12] V3 wr ∧ Hid (TbB wr g12 n1 hm (fun _ => 0) (fun _ _ => .slice none 0 0)) ∧ Hid (Mps V3.heap.size i hm) ∧ Hid (IntA wr g2 n1 (fun x => if x < i then stOf p.ns x else 0)) ∧ Hid (a = if i = 0 then 0 else stOf p.ns (i - 1))) (fun _ s52 _ => n1 - (intOf s52).toNat)
 case atStart => exact ⟨0, 0, _, Nat.zero_le _, rfl, rfl, Kept.refl _ _, T0, Lib.hid (Mps.zero _), I0, rfl⟩
 case round =>
 clear I0 T0 CX3 FX3 C03 F03
 obtain ⟨i, a, hm, hi, rfl, rfl, hkr, TR, HHM, IR, HA⟩ := hrel
 have ⟨LXr, CXr, FXr⟩ := hkr.blk hgA HBX.out
 have ⟨L0r, C0r, F0r⟩ := hkr.blk hb0A B03.out
 by_cases hlt : i < n1
 · obtain ⟨b1, o1, rfl, hl1, hc1⟩ := HND.out.2 (by omega)
   obtain ⟨r1, r2, r3⟩ := hc1 i hlt
   have hl1g : b1 ∉ [g2, g12] := by
     have h0 := hB.size
     have h1 : b1 ≠ g2 := by omega
     have h2 : b1 ≠ g12 := by omega
     simp [h1, h2]
   have hl13 : b1 < V3.heap.size := Nat.lt_of_lt_of_le hl1 hkw3.size
   replace r1 := (hkr.cell b1 _ hl13 hl1g).trans ((hkw3.cell b1 _ hl1 (by simp)).trans r1)
   replace r2 := (hkr.cell b1 _ hl13 hl1g).trans ((hkw3.cell b1 _ hl1 (by simp)).trans r2)
   replace r3 := (hkr.cell b1 _ hl13 hl1g).trans ((hkw3.cell b1 _ hl1 (by simp)).trans r3)
   have hl1r : b1 < wr.heap.size := Nat.lt_of_lt_of_le hl13 hkr.size
   obtain ⟨nf, nk, ni, en⟩ : ∃ nf nk ni, gn p.ns i = ⟨nf, nk, ni⟩ := ⟨_, _, _, rfl⟩
   rw [en] at r1 r2 r3
   have HEN := Lib.hid en
   have hi1 : (i : Int) < (n1 : Int) := by omega
   clear hc1 en
   go_upto_region 8 with fail
   refine wp_named (fun X => ∃ y, wr.heap.size = y ∧ Blk X y [.int .i64 nf, .int .i64 nk, .int .i64 ni] ∧ Kept [] wr X) ⟨_, rfl, Blk.new _ _ _ _ rfl, (Kept.refl _ _).alloc _⟩ ?_
   rintro X ⟨y, ey, By, hkX⟩
   rw [ey]
   have ⟨Ly, Cy, Fy⟩ := By
   have ⟨LXx, CXx, FXx⟩ := hkX.blk (by simp) (hkr.blk hgA HBX.out)
   have IX := Lib.hid (IR.out.kept hkX (by simp))
   have ci := IX.out.2.1 i hlt
   have fi := IX.out.2.2 i
   have hg2X := IX.out.1
   have hkrX : Kept [g2, g12] V3 X := hkr.next hkX (by simp)
   have TX := Lib.hid (TR.out.kept hkX (by simp) (by simp))
   have hnone := HHM.out.2.1 i (Nat.le_refl _)
   clear r1 r2 r3 CXr FXr C0r F0r ey
   by_cases k1 : nk = 1
   · subst k1
     have hS : Hid (IntA (X.setCell ⟨g2, i, none⟩ (.int .i64 (i : Nat))) g2 n1 (fun x => if x < i + 1 then stOf p.ns x else 0)) := Lib.hid (IX.out.set i i (fun x hx => by
       by_cases e : x = i
       · subst e
         rw [if_pos rfl, if_pos (by omega)]
         cases x with
         | zero => rfl
         | succ x => rw [stOf, if_pos (by rw [HEN.out])]
       · rw [if_neg e]
         by_cases e2 : x < i
         · rw [if_pos (by omega), if_pos e2]
         · rw [if_neg (by omega), if_neg e2]))
     have hA : Hid (i = if i + 1 = 0 then 0 else stOf p.ns (i + 1 - 1)) := by
       show _ = _
       rw [if_neg (by omega), Nat.add_sub_cancel]
       cases i with
       | zero => rfl
       | succ i => rw [stOf, if_pos (by rw [HEN.out])]
     go_upto_region 11 with fail
     refine wp_named (fun V => Kept [g2] X V ∧ IntA V g2 n1 (fun x => if x < i + 1 then stOf p.ns x else 0)) ⟨(Kept.refl [g2] X).set g2 i _ (.inl (by simp)), hS.out⟩ ?_
     rintro V4 ⟨hkV4, hIV⟩
     have IV4 := Lib.hid hIV
     have hkrV : Kept [g2, g12] V3 V4 := hkrX.next hkV4 (by intro y hy; left; simp at hy; simp [hy])
     have ⟨LXv, CXv, FXv⟩ := hkrV.blk hgA HBX.out
     have TV := Lib.hid (TX.out.kept hkV4 (by simpa using hg2g12.symm) (fun n b _ hb hm9 => by
       have h1 := HHM.out.2.2 n b hb
       have h2 : g2 < V3.heap.size := (Array.getElem?_eq_some_iff.1 O2.out).1
       simp at hm9
       omega))
     have hcell := TV.out.cell hlt
     rw [hnone] at hcell
     have hfr := TV.out.rtag.frozen i
     have hrV : g12 < V4.heap.size := TV.out.rtag.lt
     clear CXx FXx hS hIV ci fi
     go_upto_region 12 with fail
     refine wp_named (fun U => ∃ b, V4.heap.size = b ∧ TbB U g12 n1 (fun x => if x = i then some b else hm x) (fun _ => 0) (fun _ _ => .slice none 0 0) ∧ Kept [g12] V4 U) ⟨_, rfl, ?_, ?_⟩ ?_
     · first | exact TV.out.fresh hlt hnone rfl | (rw [← World.setCell_alloc_past _ _ _ _ hrV]; exact TV.out.fresh hlt hnone rfl)
     · first | exact ((Kept.refl [g12] V4).set g12 i _ (.inl (by simp))).alloc _ | exact ((Kept.refl [g12] V4).alloc _).set g12 i _ (.inl (by simp))
     rintro U ⟨mb, emb, TU, hkU⟩
     have HTU := Lib.hid TU
     have HMU := Lib.hid (HHM.out.step (b := mb) (by have := hkrV.size; omega))
     have IU := Lib.hid (IV4.out.kept hkU (by simpa using hg2g12))
     have hkrU : Kept [g2, g12] V3 U := hkrV.next hkU (by intro y hy; left; simp at hy; simp [hy])
     clear TU hcell hfr CXv FXv
     go_wp2_with fail
     exact ⟨⟨i + 1, i, _, by omega, rfl, by go_num, hkrU, HTU, HMU, IU, hA⟩, by simp [intOf]; omega⟩
   · have k1' : (nk == 1) = false := by simpa using k1
     have hst : a = stOf p.ns i := by
       rw [HA.out]
       cases i with
       | zero => rfl
       | succ i => rw [if_neg (by omega), Nat.add_sub_cancel, stOf, if_neg (by rw [HEN.out]; exact k1)]
     have HST := Lib.hid hst
     have hS : Hid (IntA (X.setCell ⟨g2, i, none⟩ (.int .i64 (a : Nat))) g2 n1 (fun x => if x < i + 1 then stOf p.ns x else 0)) := Lib.hid (IX.out.set i a (fun x hx => by
       by_cases e : x = i
       · subst e
         rw [if_pos rfl, if_pos (by omega), HST.out]
       · rw [if_neg e]
         by_cases e2 : x < i
         · rw [if_pos (by omega), if_pos e2]
         · rw [if_neg (by omega), if_neg e2]))
     have hA : Hid (a = if i + 1 = 0 then 0 else stOf p.ns (i + 1 - 1)) := by
       show _ = _
       rw [if_neg (by omega), Nat.add_sub_cancel, HST.out]
     clear k1 hst
     go_upto_region 11 with fail
     refine wp_named (fun V => Kept [g2] X V ∧ IntA V g2 n1 (fun x => if x < i + 1 then stOf p.ns x else 0)) ⟨(Kept.refl [g2] X).set g2 i _ (.inl (by simp)), hS.out⟩ ?_
     rintro V4 ⟨hkV4, hIV⟩
     have IV4 := Lib.hid hIV
     have hkrV : Kept [g2, g12] V3 V4 := hkrX.next hkV4 (by intro y hy; left; simp at hy; simp [hy])
     have ⟨LXv, CXv, FXv⟩ := hkrV.blk hgA HBX.out
     have TV := Lib.hid (TX.out.kept hkV4 (by simpa using hg2g12.symm) (fun n b _ hb hm9 => by
       have h1 := HHM.out.2.2 n b hb
       have h2 : g2 < V3.heap.size := (Array.getElem?_eq_some_iff.1 O2.out).1
       simp at hm9
       omega))
     have hcell := TV.out.cell hlt
     rw [hnone] at hcell
     have hfr := TV.out.rtag.frozen i
     have hrV : g12 < V4.heap.size := TV.out.rtag.lt
     clear CXx FXx hS hIV ci fi
     go_upto_region 12 with fail
     refine wp_named (fun U => ∃ b, V4.heap.size = b ∧ TbB U g12 n1 (fun x => if x = i then some b else hm x) (fun _ => 0) (fun _ _ => .slice none 0 0) ∧ Kept [g12] V4 U) ⟨_, rfl, ?_, ?_⟩ ?_
     · first | exact TV.out.fresh hlt hnone rfl | (rw [← World.setCell_alloc_past _ _ _ _ hrV]; exact TV.out.fresh hlt hnone rfl)
     · first | exact ((Kept.refl [g12] V4).set g12 i _ (.inl (by simp))).alloc _ | exact ((Kept.refl [g12] V4).alloc _).set g12 i _ (.inl (by simp))
     rintro U ⟨mb, emb, TU, hkU⟩
     have HTU := Lib.hid TU
     have HMU := Lib.hid (HHM.out.step (b := mb) (by have := hkrV.size; omega))
     have IU := Lib.hid (IV4.out.kept hkU (by simpa using hg2g12))
     have hkrU : Kept [g2, g12] V3 U := hkrV.next hkU (by intro y hy; left; simp at hy; simp [hy])
     clear TU hcell hfr CXv FXv
     go_wp2_with fail
     exact ⟨⟨i + 1, a, _, by omega, rfl, by go_num, hkrU, HTU, HMU, IU, hA⟩, by simp [intOf]; omega⟩
 obtain rfl : n1 = i := by omega
 have hg3 : g < V3.heap.size := HBX.out.1
 have hd46 : g4 ≠ g6 := HPC.out.h4.1.ne HPC.out.h6.1 (by decide)
 have hd48 : g4 ≠ g8 := HPC.out.h4.1.ne HPC.out.h8.1 (by decide)
 have hd410 : g4 ≠ g10 := HPC.out.h4.1.ne HPC.out.h10.1 (by decide)
 have hd68 : g6 ≠ g8 := HPC.out.h6.1.ne HPC.out.h8.1 (by decide)
 have hd610 : g6 ≠ g10 := HPC.out.h6.1.ne HPC.out.h10.1 (by decide)
 have hd810 : g8 ≠ g10 := HPC.out.h8.1.ne HPC.out.h10.1 (by decide)
 have hd2 : g2 ≠ g4 ∧ g2 ≠ g6 ∧ g2 ≠ g8 ∧ g2 ≠ g10 := ⟨HPC.out.h2.1.ne HPC.out.h4.1 (by decide), HPC.out.h2.1.ne HPC.out.h6.1 (by decide), HPC.out.h2.1.ne HPC.out.h8.1 (by decide), HPC.out.h2.1.ne HPC.out.h10.1 (by decide)⟩
 have HD2 := Lib.hid hd2
 have HNE : Hid (∀ x ∈ [g2, g4, g6, g8, g10], g12 ≠ x ∧ g17 ≠ x ∧ g19 ≠ x) := fun x hx => by
   simp at hx
   rcases hx with rfl | rfl | rfl | rfl | rfl
   · exact ⟨HPC.out.h12.1.ne HPC.out.h2.1 (by decide), HPC.out.h17.1.ne HPC.out.h2.1 (by decide), HPC.out.h19.1.ne HPC.out.h2.1 (by decide)⟩
   · exact ⟨HPC.out.h12.1.ne HPC.out.h4.1 (by decide), HPC.out.h17.1.ne HPC.out.h4.1 (by decide), HPC.out.h19.1.ne HPC.out.h4.1 (by decide)⟩
   · exact ⟨HPC.out.h12.1.ne HPC.out.h6.1 (by decide), HPC.out.h17.1.ne HPC.out.h6.1 (by decide), HPC.out.h19.1.ne HPC.out.h6.1 (by decide)⟩
   · exact ⟨HPC.out.h12.1.ne HPC.out.h8.1 (by decide), HPC.out.h17.1.ne HPC.out.h8.1 (by decide), HPC.out.h19.1.ne HPC.out.h8.1 (by decide)⟩
   · exact ⟨HPC.out.h12.1.ne HPC.out.h10.1 (by decide), HPC.out.h17.1.ne HPC.out.h10.1 (by decide), HPC.out.h19.1.ne HPC.out.h10.1 (by decide)⟩
 have hgn : g ∉ [g2, g4, g6, g8, g10, g12, g17] := by
   have h1 := HBG.out.ne HPC.out.h2.1 (by decide); have h2 := HBG.out.ne HPC.out.h4.1 (by decide); have h3 := HBG.out.ne HPC.out.h6.1 (by decide); have h4 := HBG.out.ne HPC.out.h8.1 (by decide); have h5 := HBG.out.ne HPC.out.h10.1 (by decide); have h6 := HBG.out.ne HPC.out.h12.1 (by decide); have h7 := HBG.out.ne HPC.out.h17.1 (by decide)
   simp [h1, h2, h3, h4, h5, h6, h7]
 have hXW : ∀ x ∈ [g2, g4, g6, g8, g10, g12, g17], W.heap.size ≤ x := fun x hx => by
   have h1 := HPC.out.h2.2; have h2 := HPC.out.h4.2; have h3 := HPC.out.h6.2; have h4 := HPC.out.h8.2; have h5 := HPC.out.h10.2; have h6 := HPC.out.h12.2; have h7 := HPC.out.h17.2
   simp at hx
   rcases hx with rfl | rfl | rfl | rfl | rfl | rfl | rfl <;> assumption
 have HXW := Lib.hid hXW
 have hb0n : b0 ∉ [g2, g4, g6, g8, g10, g12, g17] := fun hm => by have := hXW _ hm; omega
 have HMRi : Hid (∀ i, i < n1 → MR[i]? = some (.slice none 0 0)) := fun i hi => by rw [← HMR.out]; exact rep_at hi
 have hR0 : Rws 3 V3.heap.size V3 (rsel g4 g6 g8 g10) n1 (fun _ _ => .slice none 0 0) (LK p 0 0 0 0) := Rws.init O4.out O6.out O8.out O10.out HMRi.out hd46 hd48 hd410 hd68 hd610 hd810
 have R0 := Lib.hid (hR0.kept (X := [g2, g12]) hkr (fun x hx => by
   simp at hx
   rcases hx with rfl | rfl
   · refine ⟨(Array.getElem?_eq_some_iff.1 O2.out).1, fun t ht => ?_⟩
     match t, ht with
     | 0, _ => exact HD2.out.1
     | 1, _ => exact HD2.out.2.1
     | 2, _ => exact HD2.out.2.2.1
     | 3, _ => exact HD2.out.2.2.2
   · refine ⟨l12, fun t ht => ?_⟩
     match t, ht with
     | 0, _ => exact (HNE.out g4 (by simp)).1
     | 1, _ => exact (HNE.out g6 (by simp)).1
     | 2, _ => exact (HNE.out g8 (by simp)).1
     | 3, _ => exact (HNE.out g10 (by simp)).1))
 have I1 : Hid (IntA wr g2 n1 (fun x => stOf p.ns x)) := Lib.hid ⟨IR.out.1, fun x hx => (IR.out.2.1 x hx).trans (by simp [hx]), IR.out.2.2⟩
 have hk1 : Kept [g2, g4, g6, g8, g10, g12, g17] V3 wr := keptWide hkr (by simp)
 obtain ⟨S1, hS1⟩ : ∃ S1, S1 = wr.heap.size := ⟨_, rfl⟩
 have HS1 : Hid (V3.heap.size ≤ S1) := Lib.hid (by rw [hS1]; exact hkr.size)
 have HSW : S1 ≤ wr.heap.size := by omega
 have HHS : Hid (∀ x b, x < n1 → hm x = some b → b < S1) := fun x b hx hb => by rw [hS1]; exact (TR.out.is x b hx hb).lt
 have TE1 : Hid (TbB wr g17 n2 (fun _ => none) (fun _ => 0) (fun _ _ => .slice none 0 0)) := Lib.hid (TE0.out.kept hkr (fun h9 => by
   simp at h9
   rcases h9 with h9 | h9
   · exact (HNE.out g2 (by simp)).2.1 h9
   · exact HPC.out.h12.1.ne HPC.out.h17.1 (by decide) h9.symm) (fun _ _ _ h => by cases h))
 have HDS := Lib.hid (And.intro hd46 (And.intro hd48 (And.intro hd410 (And.intro hd68 (And.intro hd610 hd810)))))
 clear hd2 hXW hd46 hd48 hd410 hd68 hd610 hd810 hR0 HA IR hi hlt hkr TE0 hS1
 have ⟨LXr', CXr', FXr'⟩ := hk1.blk hgn HBX.out
 go_wp2_with fail
 clear CXr FXr C0r F0r CXr' FXr'
 go_loopw [80] (fun s80 wq => ∃ (k : Nat) (v : Nat → Nat → Value) (em : Nat → Option Nat), k ≤ n2 ∧ s80 = .int .i64 k ∧ S1 ≤ wq.heap.size ∧ Hid (TbB wq g12 n1 hm (fun _ => 0) (fun _ _ => .slice none 0 0)) ∧ Hid (TbB wq g17 n2 em (fun _ => 0) (fun _ _ => .slice none 0 0)) ∧ Hid (Mps S1 k em) ∧ Kept [g2, g4, g6, g8, g10, g12, g17] V3 wq ∧ Hid (IntA wq g2 n1 (fun x => stOf p.ns x)) ∧ Hid (Rws 3 V3.heap.size wq (rsel g4 g6 g8 g10) n1 v (LK p k k k 0))) (fun s80 _ => n2 - (intOf s80).toNat)
 case atStart => exact ⟨0, _, _, Nat.zero_le _, rfl, HSW, TR, TE1, Lib.hid (Mps.zero _), hk1, I1, R0⟩
 case round =>
 clear I1 R0 hk1 TR TE1 HSW
 rename World => wq
 obtain ⟨k, v, em, hk, rfl, HSW, TQ, TEQ, HEMQ, hkq, IQ, RQ⟩ := hrel
 have ⟨LXq, CXq, FXq⟩ := hkq.blk hgn HBX.out
 have ⟨L0q, C0q, F0q⟩ := hkq.blk hb0n B03.out
 by_cases hlt : k < n2
 · obtain ⟨b2, o2, rfl, hl2, hc2⟩ := HED.out.2 (by omega)
   have hke : k < p.es.length := by rw [HED.out.1]; exact hlt
   obtain ⟨r1, r2, r3, r4⟩ := hc2 k hlt
   have hl23 : b2 < V3.heap.size := Nat.lt_of_lt_of_le hl2 hkw3.size
   have hb2n : b2 ∉ [g2, g4, g6, g8, g10, g12, g17] := fun hm => by have h1 := HXW.out _ hm; have h2 := hB.size; omega
   replace r1 := (hkq.cell b2 _ hl23 hb2n).trans ((hkw3.cell b2 _ hl2 (by simp)).trans r1)
   replace r2 := (hkq.cell b2 _ hl23 hb2n).trans ((hkw3.cell b2 _ hl2 (by simp)).trans r2)
   replace r3 := (hkq.cell b2 _ hl23 hb2n).trans ((hkw3.cell b2 _ hl2 (by simp)).trans r3)
   replace r4 := (hkq.cell b2 _ hl23 hb2n).trans ((hkw3.cell b2 _ hl2 (by simp)).trans r4)
   have hl2q : b2 < wq.heap.size := Nat.lt_of_lt_of_le hl23 hkq.size
   have hed := HO.out.edge hke
   obtain ⟨ea, hea⟩ := Int.eq_ofNat_of_zero_le hed.1
   obtain ⟨eb, heb⟩ := Int.eq_ofNat_of_zero_le hed.2.2.1
   obtain ⟨ek, hek⟩ : ∃ x, (ge p.es k).k = x := ⟨_, rfl⟩
   obtain ⟨ec, hec⟩ : ∃ x, (ge p.es k).c = x := ⟨_, rfl⟩
   rw [hea] at r1
   rw [heb] at r2
   rw [hek] at r3
   rw [hec] at r4
   have hea1 : ea < n1 := by have h1 := HND.out.1; have h2 := hed.2.1; omega
   have heb1 : eb < n1 := by have h1 := HND.out.1; have h2 := hed.2.2.2.1; omega
   have HEA := Lib.hid hea
   have HEB := Lib.hid heb
   have HEK := Lib.hid hek
   have HEC := Lib.hid hec
   have HED2 := Lib.hid hed
   have hk1 : (k : Int) < (n2 : Int) := by omega
   have hea1' : (ea : Int) < (n1 : Int) := by omega
   have heb1' : (eb : Int) < (n1 : Int) := by omega
   clear hc2 hea heb hek hec hed
   go_upto_region 16 with fail
   refine wp_named (fun X => ∃ y, wq.heap.size = y ∧ Blk X y [.int .i64 ea, .int .i64 eb, .int .i64 ek, .int .i64 ec] ∧ Kept [] wq X) ⟨_, rfl, Blk.new _ _ _ _ rfl, (Kept.refl _ _).alloc _⟩ ?_
   rintro X0 ⟨y, ey, By0, hkX⟩
   rw [ey]
   have ⟨Ly0, Cy0, Fy0⟩ := By0
   have TE0 := Lib.hid (TEQ.out.kept hkX (by simp) (by simp))
   have TH0 := Lib.hid (TQ.out.kept hkX (by simp) (by simp))
   have hnone := HEMQ.out.2.1 k (Nat.le_refl _)
   have hcell := TE0.out.cell hlt
   rw [hnone] at hcell
   have hfr := TE0.out.rtag.frozen k
   have hrV : g17 < X0.heap.size := TE0.out.rtag.lt
   have hk3X0 : Kept [g2, g4, g6, g8, g10, g12, g17] V3 X0 := hkq.next hkX (by simp)
   have ⟨LX0, CX0, FX0⟩ := hk3X0.blk hgn HBX.out
   have hy3 : V3.heap.size ≤ y := by have := hkq.size; omega
   have hyg : g17 ≠ y := by omega
   clear CXq FXq r1 r2 r3 r4
   go_upto_region 17 with fail
   refine wp_named (fun U => ∃ b, X0.heap.size = b ∧ TbB U g17 n2 (fun x => if x = k then some b else em x) (fun _ => 0) (fun _ _ => .slice none 0 0) ∧ Kept [g17] X0 U) ⟨_, rfl, ?_, ?_⟩ ?_
   · first | exact TE0.out.fresh hlt hnone rfl | (rw [← World.setCell_alloc_past _ _ _ _ hrV]; exact TE0.out.fresh hlt hnone rfl)
   · first | exact ((Kept.refl [g17] X0).set g17 k _ (.inl (by simp))).alloc _ | exact ((Kept.refl [g17] X0).alloc _).set g17 k _ (.inl (by simp))
   rintro X1 ⟨mb, emb, TU, hkU⟩
   have TE1 := Lib.hid TU
   have HEM1 := Lib.hid (HEMQ.out.step (b := mb) (by have := hkX.size; omega))
   have TH1 := Lib.hid (TH0.out.kept hkU (by simpa using HPC.out.h12.1.ne HPC.out.h17.1 (by decide)) (fun n b _ hb h9 => by have := HHM.out.2.2 n b hb; simp at h9; omega))
   have By := hkU.blk (by simpa using hyg.symm) By0
   have ⟨Ly, Cy, Fy⟩ := By
   have HBY := Lib.hid By
   clear TU hcell hfr CX0 FX0 Cy0 Fy0 TEQ TQ HEMQ
   have hk3X1 : Kept [g2, g4, g6, g8, g10, g12, g17] V3 X1 := hk3X0.next hkU (by intro z hz; left; simp at hz; simp [hz])
   have IX1 := Lib.hid ((IQ.out.kept hkX (by simp)).kept hkU (by simpa using ((HNE.out g2 (by simp)).2.1).symm))
   have RW1 := Lib.hid ((RQ.out.kept hkX (by simp)).kept hkU (fun x hx => by
     simp at hx
     subst hx
     refine ⟨l17, fun t ht => ?_⟩
     match t, ht with
     | 0, _ => exact (HNE.out g4 (by simp)).2.1
     | 1, _ => exact (HNE.out g6 (by simp)).2.1
     | 2, _ => exact (HNE.out g8 (by simp)).2.1
     | 3, _ => exact (HNE.out g10 (by simp)).2.1))
   have HY1 : Hid (∀ t i x, t < 4 → i < n1 → (v t i).ownBlock = some x → x ≠ y) := fun t i x ht hi hx => by have := own_lt2 (RQ.out.own t i ht hi) hx; omega
   have HLL1 : Hid (∀ t i, (LK p k k k 0 t i).length ≤ 1000000) := fun t i => LK_len (by omega) (by omega) (by omega) (by omega) t i
   have ⟨LX1, CX1, FX1⟩ := hk3X1.blk hgn HBX.out
   have hgX1 : g < X1.heap.size := LX1
   have hyX1 : y < X1.heap.size := Ly
   have HSX : S1 ≤ X1.heap.size := by have := hkX.size; have := hkU.size; omega
   clear C0q F0q ey RQ IQ By By0
   obtain ⟨A91, m91, c91, hv91, hm91⟩ : ∃ A9 m9 c9, v 0 ea = .slice A9 m9 c9 ∧ m9 = ((LK p k k k 0) 0 ea).length := by
     rcases (RW1.out.own 0 ea (by omega) hea1).2 with ⟨h1, h2⟩ | ⟨g', cap, cur, h1, _⟩
     · exact ⟨_, _, _, h1, h2.symm⟩
     · exact ⟨_, _, _, h1, rfl⟩
   have OWN1 : Hid (X1.ownsRow V3.heap.size 3 1 (.slice A91 m91 c91) m91 (((LK p k k k 0) 0 ea).map (Value.int .i64))) := Lib.hid (by have h9 := RW1.out.own 0 ea (by omega) hea1; rw [hv91, ← hm91] at h9; exact h9)
   have rX1 : X1.cell? ⟨g4, ea, none⟩ = some (.slice A91 m91 c91) := by rw [← hv91]; exact RW1.out.cell 0 ea (by omega) hea1
   have fX1 : X1.frozen? ⟨g4, ea, none⟩ = false := RW1.out.fr 0 ea (by omega)
   have hrX1 : g4 < X1.heap.size := Nat.lt_of_lt_of_le (RW1.out.rlt 0 (by omega)) RW1.out.hlim
   have oX1 : ∀ x, x ∈ (Value.slice A91 m91 c91).ownBlock.toList → V3.heap.size ≤ x ∧ x ≠ y := fun x hx => by
     have h1 : (v 0 ea).ownBlock = some x := by rw [hv91]; simpa using hx
     exact ⟨own_ge (RW1.out.own 0 ea (by omega) hea1) h1, HY1.out 0 ea x (by omega) hea1 h1⟩
   have xg1 : g ∉ (Value.slice A91 m91 c91).ownBlock.toList := fun hm => by have := (oX1 g hm).1; have := hg3; omega
   have xy1 : y ∉ (Value.slice A91 m91 c91).ownBlock.toList := fun hm => (oX1 _ hm).2 rfl
   have xr1 : g4 ∉ (Value.slice A91 m91 c91).ownBlock.toList := fun hm => by have h1 := (oX1 _ hm).1; have h2 := RW1.out.rlt 0 (by omega); exact absurd h2 (Nat.not_lt.2 h1)
   have hm9b1 : m91 ≤ 1000000 := by rw [hm91]; exact HLL1.out 0 ea
   have hlX1 : V3.heap.size ≤ X1.heap.size := RW1.out.hlim
   have HAB1 : Hid (((LK p k k k 0) 0 ea ++ [(k : Int)]).map (Value.int .i64) = ((LK p k k k 0) 0 ea).map (Value.int .i64) ++ [.int .i64 (k : Int)]) := Lib.hid (by simp)
   have HV91 := Lib.hid hv91
   have HM91 := Lib.hid hm91
   have OX1 := Lib.hid oX1
   clear hv91 hm91 oX1
   go_upto_region 17 with fail
   refine wp_region_E 18 (fun w' => SXt (Value.slice A91 m91 c91).ownBlock.toList g y g4 X1 w') (by kernel_rfl) (by (first | (with_reducible assumption) | exact SXt.of (Kept.refl _ _).drew hgX1 hyX1 hrX1 xg1 xy1 xr1 | exact SXt.of (hHeld.1.alloc _) hgX1 hyX1 hrX1 xg1 xy1 xr1 | exact SXt.of HKA1.out hgX1 hyX1 hrX1 xg1 xy1 xr1)) (fun hHeld => ?_)
   refine WE_tk 0 ?_
   refine WE_tk 1 ?_
   refine WE_tk 2 ?_
   refine WE_tk 3 ?_
   refine WE_tk 4 ?_
   refine WE_tk 5 ?_
   refine WE_tk 6 ?_
   refine WE_tk 7 ?_
   refine WE_tk 8 ?_
   refine WE_tk 9 ?_
   refine WE_tk 10 ?_
   refine WE_tk 11 ?_
   refine WE_tk 12 ?_
   refine WE_tk 13 ?_
   refine WE_tk 14 ?_
   refine WE_step 15 rfl (by kernel_rfl) (fun K hK => ?_)
   go_simp
   refine hK.out _ _ ?_ (fun hHeld => ?_)
   · (first | (with_reducible assumption) | exact SXt.of (Kept.refl _ _).drew hgX1 hyX1 hrX1 xg1 xy1 xr1 | exact SXt.of (hHeld.1.alloc _) hgX1 hyX1 hrX1 xg1 xy1 xr1 | exact SXt.of HKA1.out hgX1 hyX1 hrX1 xg1 xy1 xr1)
   clear hK K
   refine WE_put ?_
   refine WE_step 16 rfl (by kernel_rfl) (fun K hK => ?_)
   (refine step_append_rd _ rfl _ _ 31 rfl V3.heap.size 3 i1 (.int .i64 0) 1 8 Tryz.underlying31 j1 j2 j3 j4 rfl (by decide) (.slice A91 m91 c91) m91 _ rfl (own_kept2 (X := []) OWN1.out (((Kept.refl [] X1).drew).alloc _) (by simp)) (some ⟨X1.heap.size, 0, none⟩) 1 1 [.int .i64 (k : Int)] rfl (Rd.new1 _ _ _ _ rfl) (fun h => by cases h) (by intro u hu; simp at hu; subst hu; rfl) (m91 + 1) rfl _ HAB1.out.symm (by unfold maxLen; omega) (by omega) (by simp; omega) ?_; intro A81 c81 w81 hown8 hk8 hat8; have hkA : Kept (Value.slice A91 m91 c91).ownBlock.toList X1 w81 := (((Kept.refl _ X1).drew).alloc _).next hk8 (fun y hy => Or.inl hy); have fX81 := (hkA.frozen _ ea hrX1 xr1).trans fX1; have HO81 := Lib.hid hown8; have HKA1 := Lib.hid hkA; have HAT1 := Lib.hid hat8; clear hown8 hk8 hat8 hkA)
   refine hK.out _ _ ?_ (fun hHeld => ?_)
   · (first | (with_reducible assumption) | exact SXt.of (Kept.refl _ _).drew hgX1 hyX1 hrX1 xg1 xy1 xr1 | exact SXt.of (hHeld.1.alloc _) hgX1 hyX1 hrX1 xg1 xy1 xr1 | exact SXt.of HKA1.out hgX1 hyX1 hrX1 xg1 xy1 xr1)
   clear hK K
   refine WE_put ?_
   refine WE_tk 17 ?_
   refine WE_last rfl (by kernel_rfl) (fun K hK => ?_)
   go_simp
   refine hK.out _ _ ?_
   clear hK K
   have hl81 : ((LK p k k k 0) 0 ea ++ [(k : Int)]).length = m91 + 1 := by rw [List.length_append, HM91.out]; rfl
   have hga1 : ∀ x, (Value.slice A81 (m91 + 1) c81).ownBlock = some x → (v 0 ea).ownBlock = some x ∨ X1.heap.size ≤ x := fun x hx => by rw [HV91.out]; rcases HAT1.out x hx with h1 | h1; (· exact .inl h1); (· right; rw [h1]; simp)
   have hsn1 := RW1.out.snoc (t := 0) (i := ea) (v' := .slice A81 (m91 + 1) c81) (l' := (LK p k k k 0) 0 ea ++ [(k : Int)]) (by omega) hea1 (by rw [HV91.out]; exact HKA1.out) (by rw [hl81]; exact HO81.out) hga1
   refine act_named (fun Z => Rws 3 V3.heap.size Z (rsel g4 g6 g8 g10) n1 (upd2 v 0 ea (.slice A81 (m91 + 1) c81)) (upd2 (LK p k k k 0) 0 ea ((LK p k k k 0) 0 ea ++ [(k : Int)])) ∧ Kept (g4 :: (Value.slice A91 m91 c91).ownBlock.toList) X1 Z) ⟨hsn1, (keptWide HKA1.out (fun x hx => List.mem_cons_of_mem _ hx)).set g4 ea _ (.inl (by simp))⟩ ?_
   rintro Z1 ⟨hRZ1, hkZ1⟩
   have hY1 : ∀ t' i' x, t' < 4 → i' < n1 → (upd2 v 0 ea (.slice A81 (m91 + 1) c81) t' i').ownBlock = some x → x ≠ y := fun t' i' x ht' hi' hx => by
     by_cases e : t' = 0 ∧ i' = ea
     · obtain ⟨rfl, rfl⟩ := e
       rw [upd2_at] at hx
       rcases hga1 x hx with h1 | h1
       · exact HY1.out _ _ x (by omega) hea1 h1
       · have := hyX1; omega
     · rw [upd2_ne e] at hx
       exact HY1.out t' i' x ht' hi' hx
   have hkZ31 : Kept [g2, g4, g6, g8, g10, g12, g17] V3 Z1 := hk3X1.next hkZ1 (fun x hx => by
     rcases List.mem_cons.1 hx with rfl | h1
     · left; simp
     · right; exact (OX1.out x h1).1)
   obtain ⟨v1, hv1⟩ : ∃ z, z = upd2 v 0 ea (.slice A81 (m91 + 1) c81) := ⟨_, rfl⟩
   rw [← hv1] at hRZ1 hY1
   have RW2 : Hid (Rws 3 V3.heap.size Z1 (rsel g4 g6 g8 g10) n1 v1 (LK p (k + 1) k k 0)) := Lib.hid (by rw [LK_out HEA.out]; exact hRZ1)
   have HY2 : Hid (∀ t i x, t < 4 → i < n1 → (v1 t i).ownBlock = some x → x ≠ y) := hY1
   have hyn1 : y ∉ g4 :: (Value.slice A91 m91 c91).ownBlock.toList := fun hm => by
     rcases List.mem_cons.1 hm with h1 | h1
     · have := RW1.out.rlt 0 (by omega); have h2 : g4 < V3.heap.size := this; omega
     · exact (OX1.out _ h1).2 rfl
   have hg2n1 : g2 ∉ g4 :: (Value.slice A91 m91 c91).ownBlock.toList := fun hm => by
     have h3 : g2 < V3.heap.size := (Array.getElem?_eq_some_iff.1 O2.out).1
     rcases List.mem_cons.1 hm with h1 | h1
     · first | exact HD2.out.1 h1 | exact HD2.out.2.1 h1 | exact HD2.out.2.2.1 h1 | exact HD2.out.2.2.2 h1
     · have := (OX1.out _ h1).1; omega
   have HB2 := Lib.hid (hkZ1.blk hyn1 HBY.out)
   have IX2 := Lib.hid (IX1.out.kept hkZ1 hg2n1)
   have hk3X2 := hkZ31
   have TH2 := Lib.hid (TH1.out.kept hkZ1 (fun hm9 => by
     rcases List.mem_cons.1 hm9 with h1 | h1
     · exact (HNE.out g4 (by simp)).1 h1
     · have := (OX1.out _ h1).1; have := l12; omega) (fun i9 b9 hi9 hb9 hm9 => by
     rcases List.mem_cons.1 hm9 with h1 | h1
     · have := HHM.out.2.2 i9 b9 hb9; have h2 : g4 < V3.heap.size := RW1.out.rlt 0 (by omega); omega
     · exact absurd rfl ((own_tag (RW1.out.own 0 ea (by omega) (by assumption)) (by rw [HV91.out]; simpa using h1)).ne_map (TH1.out.is i9 b9 hi9 hb9).obj)))
   have TE2 := Lib.hid (TE1.out.kept hkZ1 (fun hm9 => by
     rcases List.mem_cons.1 hm9 with h1 | h1
     · exact (HNE.out g4 (by simp)).2.1 h1
     · have := (OX1.out _ h1).1; have := l17; omega) (fun i9 b9 hi9 hb9 hm9 => by
     rcases List.mem_cons.1 hm9 with h1 | h1
     · have := HEM1.out.2.2 i9 b9 hb9; have h2 : g4 < V3.heap.size := RW1.out.rlt 0 (by omega); have h3 := HS1.out; omega
     · exact absurd rfl ((own_tag (RW1.out.own 0 ea (by omega) (by assumption)) (by rw [HV91.out]; simpa using h1)).ne_map (TE1.out.is i9 b9 hi9 hb9).obj)))
   have HEM2 := HEM1
   clear hRZ1 hY1 hv1 hyn1 hg2n1 rX1 fX1 xg1 xy1 xr1 OWN1 hsn1 hga1 hl81 HAB1
   have ⟨LXz, CXz, FXz⟩ := hk3X2.blk hgn HBX.out
   have ⟨Lyz, Cyz, Fyz⟩ := HB2.out
   have HLL2 : Hid (∀ t i, (LK p (k + 1) k k 0 t i).length ≤ 1000000) := fun t i => LK_len (m := 1000000) (by omega) (by omega) (by omega) (by omega) t i
   have hgX2 : g < Z1.heap.size := LXz
   have hyX2 : y < Z1.heap.size := Lyz
   clear CX1 FX1 Cy Fy
   by_cases k2 : ek = 2
   · subst k2
     obtain ⟨A92, m92, c92, hv92, hm92⟩ : ∃ A9 m9 c9, v1 1 eb = .slice A9 m9 c9 ∧ m9 = ((LK p (k + 1) k k 0) 1 eb).length := by
       rcases (RW2.out.own 1 eb (by omega) heb1).2 with ⟨h1, h2⟩ | ⟨g', cap, cur, h1, _⟩
       · exact ⟨_, _, _, h1, h2.symm⟩
       · exact ⟨_, _, _, h1, rfl⟩
     have OWN2 : Hid (Z1.ownsRow V3.heap.size 3 1 (.slice A92 m92 c92) m92 (((LK p (k + 1) k k 0) 1 eb).map (Value.int .i64))) := Lib.hid (by have h9 := RW2.out.own 1 eb (by omega) heb1; rw [hv92, ← hm92] at h9; exact h9)
     have rX2 : Z1.cell? ⟨g6, eb, none⟩ = some (.slice A92 m92 c92) := by rw [← hv92]; exact RW2.out.cell 1 eb (by omega) heb1
     have fX2 : Z1.frozen? ⟨g6, eb, none⟩ = false := RW2.out.fr 1 eb (by omega)
     have hrX2 : g6 < Z1.heap.size := Nat.lt_of_lt_of_le (RW2.out.rlt 1 (by omega)) RW2.out.hlim
     have oX2 : ∀ x, x ∈ (Value.slice A92 m92 c92).ownBlock.toList → V3.heap.size ≤ x ∧ x ≠ y := fun x hx => by
       have h1 : (v1 1 eb).ownBlock = some x := by rw [hv92]; simpa using hx
       exact ⟨own_ge (RW2.out.own 1 eb (by omega) heb1) h1, HY2.out 1 eb x (by omega) heb1 h1⟩
     have xg2 : g ∉ (Value.slice A92 m92 c92).ownBlock.toList := fun hm => by have := (oX2 g hm).1; have := hg3; omega
     have xy2 : y ∉ (Value.slice A92 m92 c92).ownBlock.toList := fun hm => (oX2 _ hm).2 rfl
     have xr2 : g6 ∉ (Value.slice A92 m92 c92).ownBlock.toList := fun hm => by have h1 := (oX2 _ hm).1; have h2 := RW2.out.rlt 1 (by omega); exact absurd h2 (Nat.not_lt.2 h1)
     have hm9b2 : m92 ≤ 1000000 := by rw [hm92]; exact HLL2.out 1 eb
     have hlX2 : V3.heap.size ≤ Z1.heap.size := RW2.out.hlim
     have HAB2 : Hid (((LK p (k + 1) k k 0) 1 eb ++ [(k : Int)]).map (Value.int .i64) = ((LK p (k + 1) k k 0) 1 eb).map (Value.int .i64) ++ [.int .i64 (k : Int)]) := Lib.hid (by simp)
     have HV92 := Lib.hid hv92
     have HM92 := Lib.hid hm92
     have OX2 := Lib.hid oX2
     clear hv92 hm92 oX2
     go_upto_region 20 with fail
     refine wp_region_E 18 (fun w' => SXt (Value.slice A92 m92 c92).ownBlock.toList g y g6 Z1 w') (by kernel_rfl) (by (first | (with_reducible assumption) | exact SXt.of (Kept.refl _ _).drew hgX2 hyX2 hrX2 xg2 xy2 xr2 | exact SXt.of (hHeld.1.alloc _) hgX2 hyX2 hrX2 xg2 xy2 xr2 | exact SXt.of HKA2.out hgX2 hyX2 hrX2 xg2 xy2 xr2)) (fun hHeld => ?_)
     refine WE_tk 0 ?_
     refine WE_tk 1 ?_
     refine WE_tk 2 ?_
     refine WE_tk 3 ?_
     refine WE_tk 4 ?_
     refine WE_tk 5 ?_
     refine WE_tk 6 ?_
     refine WE_tk 7 ?_
     refine WE_tk 8 ?_
     refine WE_tk 9 ?_
     refine WE_tk 10 ?_
     refine WE_tk 11 ?_
     refine WE_tk 12 ?_
     refine WE_tk 13 ?_
     refine WE_tk 14 ?_
     refine WE_step 15 rfl (by kernel_rfl) (fun K hK => ?_)
     go_simp
     refine hK.out _ _ ?_ (fun hHeld => ?_)
     · (first | (with_reducible assumption) | exact SXt.of (Kept.refl _ _).drew hgX2 hyX2 hrX2 xg2 xy2 xr2 | exact SXt.of (hHeld.1.alloc _) hgX2 hyX2 hrX2 xg2 xy2 xr2 | exact SXt.of HKA2.out hgX2 hyX2 hrX2 xg2 xy2 xr2)
     clear hK K
     refine WE_put ?_
     refine WE_step 16 rfl (by kernel_rfl) (fun K hK => ?_)
     (refine step_append_rd _ rfl _ _ 31 rfl V3.heap.size 3 i1 (.int .i64 0) 1 8 Tryz.underlying31 j1 j2 j3 j4 rfl (by decide) (.slice A92 m92 c92) m92 _ rfl (own_kept2 (X := []) OWN2.out (((Kept.refl [] Z1).drew).alloc _) (by simp)) (some ⟨Z1.heap.size, 0, none⟩) 1 1 [.int .i64 (k : Int)] rfl (Rd.new1 _ _ _ _ rfl) (fun h => by cases h) (by intro u hu; simp at hu; subst hu; rfl) (m92 + 1) rfl _ HAB2.out.symm (by unfold maxLen; omega) (by omega) (by simp; omega) ?_; intro A82 c82 w82 hown8 hk8 hat8; have hkA : Kept (Value.slice A92 m92 c92).ownBlock.toList Z1 w82 := (((Kept.refl _ Z1).drew).alloc _).next hk8 (fun y hy => Or.inl hy); have fX82 := (hkA.frozen _ eb hrX2 xr2).trans fX2; have HO82 := Lib.hid hown8; have HKA2 := Lib.hid hkA; have HAT2 := Lib.hid hat8; clear hown8 hk8 hat8 hkA)
     refine hK.out _ _ ?_ (fun hHeld => ?_)
     · (first | (with_reducible assumption) | exact SXt.of (Kept.refl _ _).drew hgX2 hyX2 hrX2 xg2 xy2 xr2 | exact SXt.of (hHeld.1.alloc _) hgX2 hyX2 hrX2 xg2 xy2 xr2 | exact SXt.of HKA2.out hgX2 hyX2 hrX2 xg2 xy2 xr2)
     clear hK K
     refine WE_put ?_
     refine WE_tk 17 ?_
     refine WE_last rfl (by kernel_rfl) (fun K hK => ?_)
     go_simp
     refine hK.out _ _ ?_
     clear hK K
     have hl82 : ((LK p (k + 1) k k 0) 1 eb ++ [(k : Int)]).length = m92 + 1 := by rw [List.length_append, HM92.out]; rfl
     have hga2 : ∀ x, (Value.slice A82 (m92 + 1) c82).ownBlock = some x → (v1 1 eb).ownBlock = some x ∨ Z1.heap.size ≤ x := fun x hx => by rw [HV92.out]; rcases HAT2.out x hx with h1 | h1; (· exact .inl h1); (· right; rw [h1]; simp)
     have hsn2 := RW2.out.snoc (t := 1) (i := eb) (v' := .slice A82 (m92 + 1) c82) (l' := (LK p (k + 1) k k 0) 1 eb ++ [(k : Int)]) (by omega) heb1 (by rw [HV92.out]; exact HKA2.out) (by rw [hl82]; exact HO82.out) hga2
     refine act_named (fun Z => Rws 3 V3.heap.size Z (rsel g4 g6 g8 g10) n1 (upd2 v1 1 eb (.slice A82 (m92 + 1) c82)) (upd2 (LK p (k + 1) k k 0) 1 eb ((LK p (k + 1) k k 0) 1 eb ++ [(k : Int)])) ∧ Kept (g6 :: (Value.slice A92 m92 c92).ownBlock.toList) Z1 Z) ⟨hsn2, (keptWide HKA2.out (fun x hx => List.mem_cons_of_mem _ hx)).set g6 eb _ (.inl (by simp))⟩ ?_
     rintro Z2 ⟨hRZ2, hkZ2⟩
     have hY2 : ∀ t' i' x, t' < 4 → i' < n1 → (upd2 v1 1 eb (.slice A82 (m92 + 1) c82) t' i').ownBlock = some x → x ≠ y := fun t' i' x ht' hi' hx => by
       by_cases e : t' = 1 ∧ i' = eb
       · obtain ⟨rfl, rfl⟩ := e
         rw [upd2_at] at hx
         rcases hga2 x hx with h1 | h1
         · exact HY2.out _ _ x (by omega) heb1 h1
         · have := hyX2; omega
       · rw [upd2_ne e] at hx
         exact HY2.out t' i' x ht' hi' hx
     have hkZ32 : Kept [g2, g4, g6, g8, g10, g12, g17] V3 Z2 := hk3X2.next hkZ2 (fun x hx => by
       rcases List.mem_cons.1 hx with rfl | h1
       · left; simp
       · right; exact (OX2.out x h1).1)
     obtain ⟨v2, hv2⟩ : ∃ z, z = upd2 v1 1 eb (.slice A82 (m92 + 1) c82) := ⟨_, rfl⟩
     rw [← hv2] at hRZ2 hY2
     have RW3 : Hid (Rws 3 V3.heap.size Z2 (rsel g4 g6 g8 g10) n1 v2 (LK p (k + 1) (k + 1) k 0)) := Lib.hid (by rw [LK_call HEK.out HEB.out]; exact hRZ2)
     have HY3 : Hid (∀ t i x, t < 4 → i < n1 → (v2 t i).ownBlock = some x → x ≠ y) := hY2
     have hyn2 : y ∉ g6 :: (Value.slice A92 m92 c92).ownBlock.toList := fun hm => by
       rcases List.mem_cons.1 hm with h1 | h1
       · have := RW2.out.rlt 1 (by omega); have h2 : g6 < V3.heap.size := this; omega
       · exact (OX2.out _ h1).2 rfl
     have hg2n2 : g2 ∉ g6 :: (Value.slice A92 m92 c92).ownBlock.toList := fun hm => by
       have h3 : g2 < V3.heap.size := (Array.getElem?_eq_some_iff.1 O2.out).1
       rcases List.mem_cons.1 hm with h1 | h1
       · first | exact HD2.out.1 h1 | exact HD2.out.2.1 h1 | exact HD2.out.2.2.1 h1 | exact HD2.out.2.2.2 h1
       · have := (OX2.out _ h1).1; omega
     have HB3 := Lib.hid (hkZ2.blk hyn2 HB2.out)
     have IX3 := Lib.hid (IX2.out.kept hkZ2 hg2n2)
     have hk3X3 := hkZ32
     have TH3 := Lib.hid (TH2.out.kept hkZ2 (fun hm9 => by
       rcases List.mem_cons.1 hm9 with h1 | h1
       · exact (HNE.out g6 (by simp)).1 h1
       · have := (OX2.out _ h1).1; have := l12; omega) (fun i9 b9 hi9 hb9 hm9 => by
       rcases List.mem_cons.1 hm9 with h1 | h1
       · have := HHM.out.2.2 i9 b9 hb9; have h2 : g6 < V3.heap.size := RW2.out.rlt 1 (by omega); omega
       · exact absurd rfl ((own_tag (RW2.out.own 1 eb (by omega) (by assumption)) (by rw [HV92.out]; simpa using h1)).ne_map (TH2.out.is i9 b9 hi9 hb9).obj)))
     have TE3 := Lib.hid (TE2.out.kept hkZ2 (fun hm9 => by
       rcases List.mem_cons.1 hm9 with h1 | h1
       · exact (HNE.out g6 (by simp)).2.1 h1
       · have := (OX2.out _ h1).1; have := l17; omega) (fun i9 b9 hi9 hb9 hm9 => by
       rcases List.mem_cons.1 hm9 with h1 | h1
       · have := HEM2.out.2.2 i9 b9 hb9; have h2 : g6 < V3.heap.size := RW2.out.rlt 1 (by omega); have h3 := HS1.out; omega
       · exact absurd rfl ((own_tag (RW2.out.own 1 eb (by omega) (by assumption)) (by rw [HV92.out]; simpa using h1)).ne_map (TE2.out.is i9 b9 hi9 hb9).obj)))
     have HEM3 := HEM2
     clear hRZ2 hY2 hv2 hyn2 hg2n2 rX2 fX2 xg2 xy2 xr2 OWN2 hsn2 hga2 hl82 HAB2
     go_wp2_with fail
     exact ⟨⟨k + 1, v2, _, by omega, by go_num, by have := hkZ1.size; have := hkZ2.size; omega, TH3, TE3, HEM1, hk3X3, IX3, Lib.hid (by have h9 := RW3.out; rw [← LK_noret (k := k) (by rw [HEK.out]; decide)] at h9; exact h9)⟩, by simp [intOf]; omega⟩
   have k2' : (ek == 2) = false := by simpa using k2
   have HK2 : Hid ((ge p.es k).k ≠ 2) := by show _ ≠ _; rw [HEK.out]; exact k2
   clear k2
   by_cases k3 : ek = 3
   · subst k3
     have hc := HED2.out.2.2.2.2.2.2.1 (by rw [HEK.out]; decide) (by rw [HEK.out]; decide)
     rw [HEC.out] at hc
     obtain ⟨en, rfl⟩ := Int.eq_ofNat_of_zero_le hc.1
     have hen1 : en < n1 := by have h1 := HND.out.1; have h2 := hc.2; omega
     have hen1' : (en : Int) < (n1 : Int) := by omega
     clear hc
     obtain ⟨A92, m92, c92, hv92, hm92⟩ : ∃ A9 m9 c9, v1 2 en = .slice A9 m9 c9 ∧ m9 = ((LK p (k + 1) k k 0) 2 en).length := by
       rcases (RW2.out.own 2 en (by omega) hen1).2 with ⟨h1, h2⟩ | ⟨g', cap, cur, h1, _⟩
       · exact ⟨_, _, _, h1, h2.symm⟩
       · exact ⟨_, _, _, h1, rfl⟩
     have OWN2 : Hid (Z1.ownsRow V3.heap.size 3 1 (.slice A92 m92 c92) m92 (((LK p (k + 1) k k 0) 2 en).map (Value.int .i64))) := Lib.hid (by have h9 := RW2.out.own 2 en (by omega) hen1; rw [hv92, ← hm92] at h9; exact h9)
     have rX2 : Z1.cell? ⟨g8, en, none⟩ = some (.slice A92 m92 c92) := by rw [← hv92]; exact RW2.out.cell 2 en (by omega) hen1
     have fX2 : Z1.frozen? ⟨g8, en, none⟩ = false := RW2.out.fr 2 en (by omega)
     have hrX2 : g8 < Z1.heap.size := Nat.lt_of_lt_of_le (RW2.out.rlt 2 (by omega)) RW2.out.hlim
     have oX2 : ∀ x, x ∈ (Value.slice A92 m92 c92).ownBlock.toList → V3.heap.size ≤ x ∧ x ≠ y := fun x hx => by
       have h1 : (v1 2 en).ownBlock = some x := by rw [hv92]; simpa using hx
       exact ⟨own_ge (RW2.out.own 2 en (by omega) hen1) h1, HY2.out 2 en x (by omega) hen1 h1⟩
     have xg2 : g ∉ (Value.slice A92 m92 c92).ownBlock.toList := fun hm => by have := (oX2 g hm).1; have := hg3; omega
     have xy2 : y ∉ (Value.slice A92 m92 c92).ownBlock.toList := fun hm => (oX2 _ hm).2 rfl
     have xr2 : g8 ∉ (Value.slice A92 m92 c92).ownBlock.toList := fun hm => by have h1 := (oX2 _ hm).1; have h2 := RW2.out.rlt 2 (by omega); exact absurd h2 (Nat.not_lt.2 h1)
     have hm9b2 : m92 ≤ 1000000 := by rw [hm92]; exact HLL2.out 2 en
     have hlX2 : V3.heap.size ≤ Z1.heap.size := RW2.out.hlim
     have HAB2 : Hid (((LK p (k + 1) k k 0) 2 en ++ [(k : Int)]).map (Value.int .i64) = ((LK p (k + 1) k k 0) 2 en).map (Value.int .i64) ++ [.int .i64 (k : Int)]) := Lib.hid (by simp)
     have HV92 := Lib.hid hv92
     have HM92 := Lib.hid hm92
     have OX2 := Lib.hid oX2
     clear hv92 hm92 oX2
     go_upto_region 23 with fail
     refine wp_region_E 18 (fun w' => SXt (Value.slice A92 m92 c92).ownBlock.toList g y g8 Z1 w') (by kernel_rfl) (by (first | (with_reducible assumption) | exact SXt.of (Kept.refl _ _).drew hgX2 hyX2 hrX2 xg2 xy2 xr2 | exact SXt.of (hHeld.1.alloc _) hgX2 hyX2 hrX2 xg2 xy2 xr2 | exact SXt.of HKA2.out hgX2 hyX2 hrX2 xg2 xy2 xr2)) (fun hHeld => ?_)
     refine WE_tk 0 ?_
     refine WE_tk 1 ?_
     refine WE_tk 2 ?_
     refine WE_tk 3 ?_
     refine WE_tk 4 ?_
     refine WE_tk 5 ?_
     refine WE_tk 6 ?_
     refine WE_tk 7 ?_
     refine WE_tk 8 ?_
     refine WE_tk 9 ?_
     refine WE_tk 10 ?_
     refine WE_tk 11 ?_
     refine WE_tk 12 ?_
     refine WE_tk 13 ?_
     refine WE_tk 14 ?_
     refine WE_step 15 rfl (by kernel_rfl) (fun K hK => ?_)
     go_simp
     refine hK.out _ _ ?_ (fun hHeld => ?_)
     · (first | (with_reducible assumption) | exact SXt.of (Kept.refl _ _).drew hgX2 hyX2 hrX2 xg2 xy2 xr2 | exact SXt.of (hHeld.1.alloc _) hgX2 hyX2 hrX2 xg2 xy2 xr2 | exact SXt.of HKA2.out hgX2 hyX2 hrX2 xg2 xy2 xr2)
     clear hK K
     refine WE_put ?_
     refine WE_step 16 rfl (by kernel_rfl) (fun K hK => ?_)
     (refine step_append_rd _ rfl _ _ 31 rfl V3.heap.size 3 i1 (.int .i64 0) 1 8 Tryz.underlying31 j1 j2 j3 j4 rfl (by decide) (.slice A92 m92 c92) m92 _ rfl (own_kept2 (X := []) OWN2.out (((Kept.refl [] Z1).drew).alloc _) (by simp)) (some ⟨Z1.heap.size, 0, none⟩) 1 1 [.int .i64 (k : Int)] rfl (Rd.new1 _ _ _ _ rfl) (fun h => by cases h) (by intro u hu; simp at hu; subst hu; rfl) (m92 + 1) rfl _ HAB2.out.symm (by unfold maxLen; omega) (by omega) (by simp; omega) ?_; intro A82 c82 w82 hown8 hk8 hat8; have hkA : Kept (Value.slice A92 m92 c92).ownBlock.toList Z1 w82 := (((Kept.refl _ Z1).drew).alloc _).next hk8 (fun y hy => Or.inl hy); have fX82 := (hkA.frozen _ en hrX2 xr2).trans fX2; have HO82 := Lib.hid hown8; have HKA2 := Lib.hid hkA; have HAT2 := Lib.hid hat8; clear hown8 hk8 hat8 hkA)
     refine hK.out _ _ ?_ (fun hHeld => ?_)
     · (first | (with_reducible assumption) | exact SXt.of (Kept.refl _ _).drew hgX2 hyX2 hrX2 xg2 xy2 xr2 | exact SXt.of (hHeld.1.alloc _) hgX2 hyX2 hrX2 xg2 xy2 xr2 | exact SXt.of HKA2.out hgX2 hyX2 hrX2 xg2 xy2 xr2)
     clear hK K
     refine WE_put ?_
     refine WE_tk 17 ?_
     refine WE_last rfl (by kernel_rfl) (fun K hK => ?_)
     go_simp
     refine hK.out _ _ ?_
     clear hK K
     have hl82 : ((LK p (k + 1) k k 0) 2 en ++ [(k : Int)]).length = m92 + 1 := by rw [List.length_append, HM92.out]; rfl
     have hga2 : ∀ x, (Value.slice A82 (m92 + 1) c82).ownBlock = some x → (v1 2 en).ownBlock = some x ∨ Z1.heap.size ≤ x := fun x hx => by rw [HV92.out]; rcases HAT2.out x hx with h1 | h1; (· exact .inl h1); (· right; rw [h1]; simp)
     have hsn2 := RW2.out.snoc (t := 2) (i := en) (v' := .slice A82 (m92 + 1) c82) (l' := (LK p (k + 1) k k 0) 2 en ++ [(k : Int)]) (by omega) hen1 (by rw [HV92.out]; exact HKA2.out) (by rw [hl82]; exact HO82.out) hga2
     refine act_named (fun Z => Rws 3 V3.heap.size Z (rsel g4 g6 g8 g10) n1 (upd2 v1 2 en (.slice A82 (m92 + 1) c82)) (upd2 (LK p (k + 1) k k 0) 2 en ((LK p (k + 1) k k 0) 2 en ++ [(k : Int)])) ∧ Kept (g8 :: (Value.slice A92 m92 c92).ownBlock.toList) Z1 Z) ⟨hsn2, (keptWide HKA2.out (fun x hx => List.mem_cons_of_mem _ hx)).set g8 en _ (.inl (by simp))⟩ ?_
     rintro Z2 ⟨hRZ2, hkZ2⟩
     have hY2 : ∀ t' i' x, t' < 4 → i' < n1 → (upd2 v1 2 en (.slice A82 (m92 + 1) c82) t' i').ownBlock = some x → x ≠ y := fun t' i' x ht' hi' hx => by
       by_cases e : t' = 2 ∧ i' = en
       · obtain ⟨rfl, rfl⟩ := e
         rw [upd2_at] at hx
         rcases hga2 x hx with h1 | h1
         · exact HY2.out _ _ x (by omega) hen1 h1
         · have := hyX2; omega
       · rw [upd2_ne e] at hx
         exact HY2.out t' i' x ht' hi' hx
     have hkZ32 : Kept [g2, g4, g6, g8, g10, g12, g17] V3 Z2 := hk3X2.next hkZ2 (fun x hx => by
       rcases List.mem_cons.1 hx with rfl | h1
       · left; simp
       · right; exact (OX2.out x h1).1)
     obtain ⟨v2, hv2⟩ : ∃ z, z = upd2 v1 2 en (.slice A82 (m92 + 1) c82) := ⟨_, rfl⟩
     rw [← hv2] at hRZ2 hY2
     have RW3 : Hid (Rws 3 V3.heap.size Z2 (rsel g4 g6 g8 g10) n1 v2 (LK p (k + 1) k (k + 1) 0)) := Lib.hid (by rw [LK_ret (by rw [HEK.out]; decide) HEC.out]; exact hRZ2)
     have HY3 : Hid (∀ t i x, t < 4 → i < n1 → (v2 t i).ownBlock = some x → x ≠ y) := hY2
     have hyn2 : y ∉ g8 :: (Value.slice A92 m92 c92).ownBlock.toList := fun hm => by
       rcases List.mem_cons.1 hm with h1 | h1
       · have := RW2.out.rlt 2 (by omega); have h2 : g8 < V3.heap.size := this; omega
       · exact (OX2.out _ h1).2 rfl
     have hg2n2 : g2 ∉ g8 :: (Value.slice A92 m92 c92).ownBlock.toList := fun hm => by
       have h3 : g2 < V3.heap.size := (Array.getElem?_eq_some_iff.1 O2.out).1
       rcases List.mem_cons.1 hm with h1 | h1
       · first | exact HD2.out.1 h1 | exact HD2.out.2.1 h1 | exact HD2.out.2.2.1 h1 | exact HD2.out.2.2.2 h1
       · have := (OX2.out _ h1).1; omega
     have HB3 := Lib.hid (hkZ2.blk hyn2 HB2.out)
     have IX3 := Lib.hid (IX2.out.kept hkZ2 hg2n2)
     have hk3X3 := hkZ32
     have TH3 := Lib.hid (TH2.out.kept hkZ2 (fun hm9 => by
       rcases List.mem_cons.1 hm9 with h1 | h1
       · exact (HNE.out g8 (by simp)).1 h1
       · have := (OX2.out _ h1).1; have := l12; omega) (fun i9 b9 hi9 hb9 hm9 => by
       rcases List.mem_cons.1 hm9 with h1 | h1
       · have := HHM.out.2.2 i9 b9 hb9; have h2 : g8 < V3.heap.size := RW2.out.rlt 2 (by omega); omega
       · exact absurd rfl ((own_tag (RW2.out.own 2 en (by omega) (by assumption)) (by rw [HV92.out]; simpa using h1)).ne_map (TH2.out.is i9 b9 hi9 hb9).obj)))
     have TE3 := Lib.hid (TE2.out.kept hkZ2 (fun hm9 => by
       rcases List.mem_cons.1 hm9 with h1 | h1
       · exact (HNE.out g8 (by simp)).2.1 h1
       · have := (OX2.out _ h1).1; have := l17; omega) (fun i9 b9 hi9 hb9 hm9 => by
       rcases List.mem_cons.1 hm9 with h1 | h1
       · have := HEM2.out.2.2 i9 b9 hb9; have h2 : g8 < V3.heap.size := RW2.out.rlt 2 (by omega); have h3 := HS1.out; omega
       · exact absurd rfl ((own_tag (RW2.out.own 2 en (by omega) (by assumption)) (by rw [HV92.out]; simpa using h1)).ne_map (TE2.out.is i9 b9 hi9 hb9).obj)))
     have HEM3 := HEM2
     clear hRZ2 hY2 hv2 hyn2 hg2n2 rX2 fX2 xg2 xy2 xr2 OWN2 hsn2 hga2 hl82 HAB2
     go_wp2_with fail
     exact ⟨⟨k + 1, v2, _, by omega, by go_num, by have := hkZ1.size; have := hkZ2.size; omega, TH3, TE3, HEM1, hk3X3, IX3, Lib.hid (by have h9 := RW3.out; rw [← LK_nocall (k := k) HK2.out] at h9; exact h9)⟩, by simp [intOf]; omega⟩
   by_cases k4 : ek = 4
   · subst k4
     have hc := HED2.out.2.2.2.2.2.2.1 (by rw [HEK.out]; decide) (by rw [HEK.out]; decide)
     rw [HEC.out] at hc
     obtain ⟨en, rfl⟩ := Int.eq_ofNat_of_zero_le hc.1
     have hen1 : en < n1 := by have h1 := HND.out.1; have h2 := hc.2; omega
     have hen1' : (en : Int) < (n1 : Int) := by omega
     clear hc k3
     obtain ⟨A92, m92, c92, hv92, hm92⟩ : ∃ A9 m9 c9, v1 2 en = .slice A9 m9 c9 ∧ m9 = ((LK p (k + 1) k k 0) 2 en).length := by
       rcases (RW2.out.own 2 en (by omega) hen1).2 with ⟨h1, h2⟩ | ⟨g', cap, cur, h1, _⟩
       · exact ⟨_, _, _, h1, h2.symm⟩
       · exact ⟨_, _, _, h1, rfl⟩
     have OWN2 : Hid (Z1.ownsRow V3.heap.size 3 1 (.slice A92 m92 c92) m92 (((LK p (k + 1) k k 0) 2 en).map (Value.int .i64))) := Lib.hid (by have h9 := RW2.out.own 2 en (by omega) hen1; rw [hv92, ← hm92] at h9; exact h9)
     have rX2 : Z1.cell? ⟨g8, en, none⟩ = some (.slice A92 m92 c92) := by rw [← hv92]; exact RW2.out.cell 2 en (by omega) hen1
     have fX2 : Z1.frozen? ⟨g8, en, none⟩ = false := RW2.out.fr 2 en (by omega)
     have hrX2 : g8 < Z1.heap.size := Nat.lt_of_lt_of_le (RW2.out.rlt 2 (by omega)) RW2.out.hlim
     have oX2 : ∀ x, x ∈ (Value.slice A92 m92 c92).ownBlock.toList → V3.heap.size ≤ x ∧ x ≠ y := fun x hx => by
       have h1 : (v1 2 en).ownBlock = some x := by rw [hv92]; simpa using hx
       exact ⟨own_ge (RW2.out.own 2 en (by omega) hen1) h1, HY2.out 2 en x (by omega) hen1 h1⟩
     have xg2 : g ∉ (Value.slice A92 m92 c92).ownBlock.toList := fun hm => by have := (oX2 g hm).1; have := hg3; omega
     have xy2 : y ∉ (Value.slice A92 m92 c92).ownBlock.toList := fun hm => (oX2 _ hm).2 rfl
     have xr2 : g8 ∉ (Value.slice A92 m92 c92).ownBlock.toList := fun hm => by have h1 := (oX2 _ hm).1; have h2 := RW2.out.rlt 2 (by omega); exact absurd h2 (Nat.not_lt.2 h1)
     have hm9b2 : m92 ≤ 1000000 := by rw [hm92]; exact HLL2.out 2 en
     have hlX2 : V3.heap.size ≤ Z1.heap.size := RW2.out.hlim
     have HAB2 : Hid (((LK p (k + 1) k k 0) 2 en ++ [(k : Int)]).map (Value.int .i64) = ((LK p (k + 1) k k 0) 2 en).map (Value.int .i64) ++ [.int .i64 (k : Int)]) := Lib.hid (by simp)
     have HV92 := Lib.hid hv92
     have HM92 := Lib.hid hm92
     have OX2 := Lib.hid oX2
     clear hv92 hm92 oX2
     go_upto_region 23 with fail
     refine wp_region_E 18 (fun w' => SXt (Value.slice A92 m92 c92).ownBlock.toList g y g8 Z1 w') (by kernel_rfl) (by (first | (with_reducible assumption) | exact SXt.of (Kept.refl _ _).drew hgX2 hyX2 hrX2 xg2 xy2 xr2 | exact SXt.of (hHeld.1.alloc _) hgX2 hyX2 hrX2 xg2 xy2 xr2 | exact SXt.of HKA2.out hgX2 hyX2 hrX2 xg2 xy2 xr2)) (fun hHeld => ?_)
     refine WE_tk 0 ?_
     refine WE_tk 1 ?_
     refine WE_tk 2 ?_
     refine WE_tk 3 ?_
     refine WE_tk 4 ?_
     refine WE_tk 5 ?_
     refine WE_tk 6 ?_
     refine WE_tk 7 ?_
     refine WE_tk 8 ?_
     refine WE_tk 9 ?_
     refine WE_tk 10 ?_
     refine WE_tk 11 ?_
     refine WE_tk 12 ?_
     refine WE_tk 13 ?_
     refine WE_tk 14 ?_
     refine WE_step 15 rfl (by kernel_rfl) (fun K hK => ?_)
     go_simp
     refine hK.out _ _ ?_ (fun hHeld => ?_)
     · (first | (with_reducible assumption) | exact SXt.of (Kept.refl _ _).drew hgX2 hyX2 hrX2 xg2 xy2 xr2 | exact SXt.of (hHeld.1.alloc _) hgX2 hyX2 hrX2 xg2 xy2 xr2 | exact SXt.of HKA2.out hgX2 hyX2 hrX2 xg2 xy2 xr2)
     clear hK K
     refine WE_put ?_
     refine WE_step 16 rfl (by kernel_rfl) (fun K hK => ?_)
     (refine step_append_rd _ rfl _ _ 31 rfl V3.heap.size 3 i1 (.int .i64 0) 1 8 Tryz.underlying31 j1 j2 j3 j4 rfl (by decide) (.slice A92 m92 c92) m92 _ rfl (own_kept2 (X := []) OWN2.out (((Kept.refl [] Z1).drew).alloc _) (by simp)) (some ⟨Z1.heap.size, 0, none⟩) 1 1 [.int .i64 (k : Int)] rfl (Rd.new1 _ _ _ _ rfl) (fun h => by cases h) (by intro u hu; simp at hu; subst hu; rfl) (m92 + 1) rfl _ HAB2.out.symm (by unfold maxLen; omega) (by omega) (by simp; omega) ?_; intro A82 c82 w82 hown8 hk8 hat8; have hkA : Kept (Value.slice A92 m92 c92).ownBlock.toList Z1 w82 := (((Kept.refl _ Z1).drew).alloc _).next hk8 (fun y hy => Or.inl hy); have fX82 := (hkA.frozen _ en hrX2 xr2).trans fX2; have HO82 := Lib.hid hown8; have HKA2 := Lib.hid hkA; have HAT2 := Lib.hid hat8; clear hown8 hk8 hat8 hkA)
     refine hK.out _ _ ?_ (fun hHeld => ?_)
     · (first | (with_reducible assumption) | exact SXt.of (Kept.refl _ _).drew hgX2 hyX2 hrX2 xg2 xy2 xr2 | exact SXt.of (hHeld.1.alloc _) hgX2 hyX2 hrX2 xg2 xy2 xr2 | exact SXt.of HKA2.out hgX2 hyX2 hrX2 xg2 xy2 xr2)
     clear hK K
     refine WE_put ?_
     refine WE_tk 17 ?_
     refine WE_last rfl (by kernel_rfl) (fun K hK => ?_)
     go_simp
     refine hK.out _ _ ?_
     clear hK K
     have hl82 : ((LK p (k + 1) k k 0) 2 en ++ [(k : Int)]).length = m92 + 1 := by rw [List.length_append, HM92.out]; rfl
     have hga2 : ∀ x, (Value.slice A82 (m92 + 1) c82).ownBlock = some x → (v1 2 en).ownBlock = some x ∨ Z1.heap.size ≤ x := fun x hx => by rw [HV92.out]; rcases HAT2.out x hx with h1 | h1; (· exact .inl h1); (· right; rw [h1]; simp)
     have hsn2 := RW2.out.snoc (t := 2) (i := en) (v' := .slice A82 (m92 + 1) c82) (l' := (LK p (k + 1) k k 0) 2 en ++ [(k : Int)]) (by omega) hen1 (by rw [HV92.out]; exact HKA2.out) (by rw [hl82]; exact HO82.out) hga2
     refine act_named (fun Z => Rws 3 V3.heap.size Z (rsel g4 g6 g8 g10) n1 (upd2 v1 2 en (.slice A82 (m92 + 1) c82)) (upd2 (LK p (k + 1) k k 0) 2 en ((LK p (k + 1) k k 0) 2 en ++ [(k : Int)])) ∧ Kept (g8 :: (Value.slice A92 m92 c92).ownBlock.toList) Z1 Z) ⟨hsn2, (keptWide HKA2.out (fun x hx => List.mem_cons_of_mem _ hx)).set g8 en _ (.inl (by simp))⟩ ?_
     rintro Z2 ⟨hRZ2, hkZ2⟩
     have hY2 : ∀ t' i' x, t' < 4 → i' < n1 → (upd2 v1 2 en (.slice A82 (m92 + 1) c82) t' i').ownBlock = some x → x ≠ y := fun t' i' x ht' hi' hx => by
       by_cases e : t' = 2 ∧ i' = en
       · obtain ⟨rfl, rfl⟩ := e
         rw [upd2_at] at hx
         rcases hga2 x hx with h1 | h1
         · exact HY2.out _ _ x (by omega) hen1 h1
         · have := hyX2; omega
       · rw [upd2_ne e] at hx
         exact HY2.out t' i' x ht' hi' hx
     have hkZ32 : Kept [g2, g4, g6, g8, g10, g12, g17] V3 Z2 := hk3X2.next hkZ2 (fun x hx => by
       rcases List.mem_cons.1 hx with rfl | h1
       · left; simp
       · right; exact (OX2.out x h1).1)
     obtain ⟨v2, hv2⟩ : ∃ z, z = upd2 v1 2 en (.slice A82 (m92 + 1) c82) := ⟨_, rfl⟩
     rw [← hv2] at hRZ2 hY2
     have RW3 : Hid (Rws 3 V3.heap.size Z2 (rsel g4 g6 g8 g10) n1 v2 (LK p (k + 1) k (k + 1) 0)) := Lib.hid (by rw [LK_ret (by rw [HEK.out]; decide) HEC.out]; exact hRZ2)
     have HY3 : Hid (∀ t i x, t < 4 → i < n1 → (v2 t i).ownBlock = some x → x ≠ y) := hY2
     have hyn2 : y ∉ g8 :: (Value.slice A92 m92 c92).ownBlock.toList := fun hm => by
       rcases List.mem_cons.1 hm with h1 | h1
       · have := RW2.out.rlt 2 (by omega); have h2 : g8 < V3.heap.size := this; omega
       · exact (OX2.out _ h1).2 rfl
     have hg2n2 : g2 ∉ g8 :: (Value.slice A92 m92 c92).ownBlock.toList := fun hm => by
       have h3 : g2 < V3.heap.size := (Array.getElem?_eq_some_iff.1 O2.out).1
       rcases List.mem_cons.1 hm with h1 | h1
       · first | exact HD2.out.1 h1 | exact HD2.out.2.1 h1 | exact HD2.out.2.2.1 h1 | exact HD2.out.2.2.2 h1
       · have := (OX2.out _ h1).1; omega
     have HB3 := Lib.hid (hkZ2.blk hyn2 HB2.out)
     have IX3 := Lib.hid (IX2.out.kept hkZ2 hg2n2)
     have hk3X3 := hkZ32
     have TH3 := Lib.hid (TH2.out.kept hkZ2 (fun hm9 => by
       rcases List.mem_cons.1 hm9 with h1 | h1
       · exact (HNE.out g8 (by simp)).1 h1
       · have := (OX2.out _ h1).1; have := l12; omega) (fun i9 b9 hi9 hb9 hm9 => by
       rcases List.mem_cons.1 hm9 with h1 | h1
       · have := HHM.out.2.2 i9 b9 hb9; have h2 : g8 < V3.heap.size := RW2.out.rlt 2 (by omega); omega
       · exact absurd rfl ((own_tag (RW2.out.own 2 en (by omega) (by assumption)) (by rw [HV92.out]; simpa using h1)).ne_map (TH2.out.is i9 b9 hi9 hb9).obj)))
     have TE3 := Lib.hid (TE2.out.kept hkZ2 (fun hm9 => by
       rcases List.mem_cons.1 hm9 with h1 | h1
       · exact (HNE.out g8 (by simp)).2.1 h1
       · have := (OX2.out _ h1).1; have := l17; omega) (fun i9 b9 hi9 hb9 hm9 => by
       rcases List.mem_cons.1 hm9 with h1 | h1
       · have := HEM2.out.2.2 i9 b9 hb9; have h2 : g8 < V3.heap.size := RW2.out.rlt 2 (by omega); have h3 := HS1.out; omega
       · exact absurd rfl ((own_tag (RW2.out.own 2 en (by omega) (by assumption)) (by rw [HV92.out]; simpa using h1)).ne_map (TE2.out.is i9 b9 hi9 hb9).obj)))
     have HEM3 := HEM2
     clear hRZ2 hY2 hv2 hyn2 hg2n2 rX2 fX2 xg2 xy2 xr2 OWN2 hsn2 hga2 hl82 HAB2
     go_wp2_with fail
     exact ⟨⟨k + 1, v2, _, by omega, by go_num, by have := hkZ1.size; have := hkZ2.size; omega, TH3, TE3, HEM1, hk3X3, IX3, Lib.hid (by have h9 := RW3.out; rw [← LK_nocall (k := k) HK2.out] at h9; exact h9)⟩, by simp [intOf]; omega⟩
   have k3' : (ek == 3) = false := by simpa using k3
   have k4' : (ek == 4) = false := by simpa using k4
   have HK34 : Hid (¬ ((ge p.es k).k = 3 ∨ (ge p.es k).k = 4)) := by show ¬ _; rw [HEK.out]; omega
   clear k3 k4
   go_wp2_with fail
   exact ⟨⟨k + 1, v1, _, by omega, by go_num, by have := hkZ1.size; omega, TH2, TE2, HEM1, hk3X2, IX2, Lib.hid (by have h9 := RW2.out; rw [← LK_nocall (k := k) HK2.out, ← LK_noret (k := k) HK34.out] at h9; exact h9)⟩, by simp [intOf]; omega⟩
 obtain rfl : n2 = k := by omega
 go_wp2_with fail
 go_loopw [157] (fun s157 wz => ∃ (j : Nat) (v : Nat → Nat → Value), j ≤ n4 ∧ s157 = .int .i64 j ∧ Hid (TbB wz g12 n1 hm (fun _ => 0) (fun _ _ => .slice none 0 0)) ∧ Hid (TbB wz g17 n2 em (fun _ => 0) (fun _ _ => .slice none 0 0)) ∧ Kept [g2, g4, g6, g8, g10, g12, g17] V3 wz ∧ Hid (IntA wz g2 n1 (fun x => stOf p.ns x)) ∧ Hid (Rws 3 V3.heap.size wz (rsel g4 g6 g8 g10) n1 v (LK p n2 n2 n2 j))) (fun s157 _ => n4 - (intOf s157).toNat)
 case atStart => exact ⟨0, v, Nat.zero_le _, rfl, TQ, TEQ, hkq, IQ, RQ⟩
 case round =>
 clear IQ RQ TQ TEQ HSW hkq CXq FXq C0q F0q L0q hlt hk
 rename World => wz
 obtain ⟨j, v, hj, rfl, TZ, TEZ, hkz, IZ, RZ⟩ := hrel
 have ⟨LXq, CXq, FXq⟩ := hkz.blk hgn HBX.out
 have ⟨L0q, C0q, F0q⟩ := hkz.blk hb0n B03.out
 by_cases hlt : j < n4
 · obtain ⟨b4, o4, rfl, hl4, hc4⟩ := HSD.out.2 (by omega)
   have hje : j < p.sd.length := by rw [HSD.out.1]; exact hlt
   obtain ⟨r1, r2⟩ := hc4 j hlt
   have hl43 : b4 < V3.heap.size := Nat.lt_of_lt_of_le hl4 hkw3.size
   have hb4n : b4 ∉ [g2, g4, g6, g8, g10, g12, g17] := fun hm => by have h1 := HXW.out _ hm; have h2 := hB.size; omega
   replace r1 := (hkz.cell b4 _ hl43 hb4n).trans ((hkw3.cell b4 _ hl4 (by simp)).trans r1)
   replace r2 := (hkz.cell b4 _ hl43 hb4n).trans ((hkw3.cell b4 _ hl4 (by simp)).trans r2)
   have hl4z : b4 < wz.heap.size := Nat.lt_of_lt_of_le hl43 hkz.size
   have hsd := HO.out.seed (gd_mem hje)
   obtain ⟨sn, hsn⟩ := Int.eq_ofNat_of_zero_le hsd.1
   obtain ⟨sf, hsf⟩ : ∃ x, (gd p.sd j).f = x := ⟨_, rfl⟩
   rw [hsn] at r1
   rw [hsf] at r2
   have hsnN : sn < n1 := by have h1 := HND.out.1; have h2 := hsd.2.1; omega
   have HSN := Lib.hid hsn
   have HSF := Lib.hid hsf
   have hj1 : (j : Int) < (n4 : Int) := by omega
   have hsn1' : (sn : Int) < (n1 : Int) := by omega
   clear hc4 hsd hsn hsf
   go_upto_region 28 with fail
   refine wp_named (fun X => ∃ y, wz.heap.size = y ∧ Blk X y [.int .i64 sn, .int .i64 sf] ∧ Kept [] wz X) ⟨_, rfl, Blk.new _ _ _ _ rfl, (Kept.refl _ _).alloc _⟩ ?_
   rintro X1 ⟨y, ey, By, hkX⟩
   rw [ey]
   have ⟨Ly, Cy, Fy⟩ := By
   have HBY := Lib.hid By
   have hk3X1 : Kept [g2, g4, g6, g8, g10, g12, g17] V3 X1 := hkz.next hkX (by simp)
   have TH1 := Lib.hid (TZ.out.kept hkX (by simp) (by simp))
   have TE1 := Lib.hid (TEZ.out.kept hkX (by simp) (by simp))
   have HEM1 := HEMQ
   have IX1 := Lib.hid (IZ.out.kept hkX (by simp))
   have RW1 := Lib.hid (RZ.out.kept hkX (by simp))
   have HY1 : Hid (∀ t i x, t < 4 → i < n1 → (v t i).ownBlock = some x → x ≠ y) := fun t i x ht hi hx => by have := own_lt2 (RZ.out.own t i ht hi) hx; omega
   have HLL1 : Hid (∀ t i, (LK p n2 n2 n2 j t i).length ≤ 1000000) := fun t i => LK_len (by omega) (by omega) (by omega) (by omega) t i
   have ⟨LX1, CX1, FX1⟩ := hk3X1.blk hgn HBX.out
   have hgX1 : g < X1.heap.size := LX1
   have hyX1 : y < X1.heap.size := Ly
   have hy3 : V3.heap.size ≤ y := by have := hkz.size; omega
   clear r1 r2 CXq FXq C0q F0q ey RZ IZ TZ TEZ By
   obtain ⟨A91, m91, c91, hv91, hm91⟩ : ∃ A9 m9 c9, v 3 sn = .slice A9 m9 c9 ∧ m9 = ((LK p n2 n2 n2 j) 3 sn).length := by
     rcases (RW1.out.own 3 sn (by omega) hsnN).2 with ⟨h1, h2⟩ | ⟨g', cap, cur, h1, _⟩
     · exact ⟨_, _, _, h1, h2.symm⟩
     · exact ⟨_, _, _, h1, rfl⟩
   have OWN1 : Hid (X1.ownsRow V3.heap.size 3 1 (.slice A91 m91 c91) m91 (((LK p n2 n2 n2 j) 3 sn).map (Value.int .i64))) := Lib.hid (by have h9 := RW1.out.own 3 sn (by omega) hsnN; rw [hv91, ← hm91] at h9; exact h9)
   have rX1 : X1.cell? ⟨g10, sn, none⟩ = some (.slice A91 m91 c91) := by rw [← hv91]; exact RW1.out.cell 3 sn (by omega) hsnN
   have fX1 : X1.frozen? ⟨g10, sn, none⟩ = false := RW1.out.fr 3 sn (by omega)
   have hrX1 : g10 < X1.heap.size := Nat.lt_of_lt_of_le (RW1.out.rlt 3 (by omega)) RW1.out.hlim
   have oX1 : ∀ x, x ∈ (Value.slice A91 m91 c91).ownBlock.toList → V3.heap.size ≤ x ∧ x ≠ y := fun x hx => by
     have h1 : (v 3 sn).ownBlock = some x := by rw [hv91]; simpa using hx
     exact ⟨own_ge (RW1.out.own 3 sn (by omega) hsnN) h1, HY1.out 3 sn x (by omega) hsnN h1⟩
   have xg1 : g ∉ (Value.slice A91 m91 c91).ownBlock.toList := fun hm => by have := (oX1 g hm).1; have := hg3; omega
   have xy1 : y ∉ (Value.slice A91 m91 c91).ownBlock.toList := fun hm => (oX1 _ hm).2 rfl
   have xr1 : g10 ∉ (Value.slice A91 m91 c91).ownBlock.toList := fun hm => by have h1 := (oX1 _ hm).1; have h2 := RW1.out.rlt 3 (by omega); exact absurd h2 (Nat.not_lt.2 h1)
   have hm9b1 : m91 ≤ 1000000 := by rw [hm91]; exact HLL1.out 3 sn
   have hlX1 : V3.heap.size ≤ X1.heap.size := RW1.out.hlim
   have HAB1 : Hid (((LK p n2 n2 n2 j) 3 sn ++ [sf]).map (Value.int .i64) = ((LK p n2 n2 n2 j) 3 sn).map (Value.int .i64) ++ [.int .i64 sf]) := Lib.hid (by simp)
   have HV91 := Lib.hid hv91
   have HM91 := Lib.hid hm91
   have OX1 := Lib.hid oX1
   clear hv91 hm91 oX1
   go_upto_region 28 with fail
   refine wp_region_E 19 (fun w' => SXt (Value.slice A91 m91 c91).ownBlock.toList g y g10 X1 w') (by kernel_rfl) (by (first | (with_reducible assumption) | exact SXt.of (Kept.refl _ _).drew hgX1 hyX1 hrX1 xg1 xy1 xr1 | exact SXt.of (hHeld.1.alloc _) hgX1 hyX1 hrX1 xg1 xy1 xr1 | exact SXt.of HKA1.out hgX1 hyX1 hrX1 xg1 xy1 xr1)) (fun hHeld => ?_)
   refine WE_tk 0 ?_
   refine WE_tk 1 ?_
   refine WE_tk 2 ?_
   refine WE_tk 3 ?_
   refine WE_tk 4 ?_
   refine WE_tk 5 ?_
   refine WE_tk 6 ?_
   refine WE_tk 7 ?_
   refine WE_tk 8 ?_
   refine WE_tk 9 ?_
   refine WE_tk 10 ?_
   refine WE_tk 11 ?_
   refine WE_tk 12 ?_
   refine WE_tk 13 ?_
   refine WE_tk 14 ?_
   refine WE_tk 15 ?_
   refine WE_step 16 rfl (by kernel_rfl) (fun K hK => ?_)
   go_simp
   refine hK.out _ _ ?_ (fun hHeld => ?_)
   · (first | (with_reducible assumption) | exact SXt.of (Kept.refl _ _).drew hgX1 hyX1 hrX1 xg1 xy1 xr1 | exact SXt.of (hHeld.1.alloc _) hgX1 hyX1 hrX1 xg1 xy1 xr1 | exact SXt.of HKA1.out hgX1 hyX1 hrX1 xg1 xy1 xr1)
   clear hK K
   refine WE_put ?_
   refine WE_step 17 rfl (by kernel_rfl) (fun K hK => ?_)
   (refine step_append_rd _ rfl _ _ 31 rfl V3.heap.size 3 i1 (.int .i64 0) 1 8 Tryz.underlying31 j1 j2 j3 j4 rfl (by decide) (.slice A91 m91 c91) m91 _ rfl (own_kept2 (X := []) OWN1.out (((Kept.refl [] X1).drew).alloc _) (by simp)) (some ⟨X1.heap.size, 0, none⟩) 1 1 [.int .i64 sf] rfl (Rd.new1 _ _ _ _ rfl) (fun h => by cases h) (by intro u hu; simp at hu; subst hu; rfl) (m91 + 1) rfl _ HAB1.out.symm (by unfold maxLen; omega) (by omega) (by simp; omega) ?_; intro A81 c81 w81 hown8 hk8 hat8; have hkA : Kept (Value.slice A91 m91 c91).ownBlock.toList X1 w81 := (((Kept.refl _ X1).drew).alloc _).next hk8 (fun y hy => Or.inl hy); have fX81 := (hkA.frozen _ sn hrX1 xr1).trans fX1; have HO81 := Lib.hid hown8; have HKA1 := Lib.hid hkA; have HAT1 := Lib.hid hat8; clear hown8 hk8 hat8 hkA)
   refine hK.out _ _ ?_ (fun hHeld => ?_)
   · (first | (with_reducible assumption) | exact SXt.of (Kept.refl _ _).drew hgX1 hyX1 hrX1 xg1 xy1 xr1 | exact SXt.of (hHeld.1.alloc _) hgX1 hyX1 hrX1 xg1 xy1 xr1 | exact SXt.of HKA1.out hgX1 hyX1 hrX1 xg1 xy1 xr1)
   clear hK K
   refine WE_put ?_
   refine WE_tk 18 ?_
   refine WE_last rfl (by kernel_rfl) (fun K hK => ?_)
   go_simp
   refine hK.out _ _ ?_
   clear hK K
   have hl81 : ((LK p n2 n2 n2 j) 3 sn ++ [sf]).length = m91 + 1 := by rw [List.length_append, HM91.out]; rfl
   have hga1 : ∀ x, (Value.slice A81 (m91 + 1) c81).ownBlock = some x → (v 3 sn).ownBlock = some x ∨ X1.heap.size ≤ x := fun x hx => by rw [HV91.out]; rcases HAT1.out x hx with h1 | h1; (· exact .inl h1); (· right; rw [h1]; simp)
   have hsn1 := RW1.out.snoc (t := 3) (i := sn) (v' := .slice A81 (m91 + 1) c81) (l' := (LK p n2 n2 n2 j) 3 sn ++ [sf]) (by omega) hsnN (by rw [HV91.out]; exact HKA1.out) (by rw [hl81]; exact HO81.out) hga1
   refine act_named (fun Z => Rws 3 V3.heap.size Z (rsel g4 g6 g8 g10) n1 (upd2 v 3 sn (.slice A81 (m91 + 1) c81)) (upd2 (LK p n2 n2 n2 j) 3 sn ((LK p n2 n2 n2 j) 3 sn ++ [sf])) ∧ Kept (g10 :: (Value.slice A91 m91 c91).ownBlock.toList) X1 Z) ⟨hsn1, (keptWide HKA1.out (fun x hx => List.mem_cons_of_mem _ hx)).set g10 sn _ (.inl (by simp))⟩ ?_
   rintro Z1 ⟨hRZ1, hkZ1⟩
   have hY1 : ∀ t' i' x, t' < 4 → i' < n1 → (upd2 v 3 sn (.slice A81 (m91 + 1) c81) t' i').ownBlock = some x → x ≠ y := fun t' i' x ht' hi' hx => by
     by_cases e : t' = 3 ∧ i' = sn
     · obtain ⟨rfl, rfl⟩ := e
       rw [upd2_at] at hx
       rcases hga1 x hx with h1 | h1
       · exact HY1.out _ _ x (by omega) hsnN h1
       · have := hyX1; omega
     · rw [upd2_ne e] at hx
       exact HY1.out t' i' x ht' hi' hx
   have hkZ31 : Kept [g2, g4, g6, g8, g10, g12, g17] V3 Z1 := hk3X1.next hkZ1 (fun x hx => by
     rcases List.mem_cons.1 hx with rfl | h1
     · left; simp
     · right; exact (OX1.out x h1).1)
   obtain ⟨v1, hv1⟩ : ∃ z, z = upd2 v 3 sn (.slice A81 (m91 + 1) c81) := ⟨_, rfl⟩
   rw [← hv1] at hRZ1 hY1
   have RW2 : Hid (Rws 3 V3.heap.size Z1 (rsel g4 g6 g8 g10) n1 v1 (LK p n2 n2 n2 (j + 1))) := Lib.hid (by rw [LK_seed hje HSN.out, HSF.out]; exact hRZ1)
   have HY2 : Hid (∀ t i x, t < 4 → i < n1 → (v1 t i).ownBlock = some x → x ≠ y) := hY1
   have hyn1 : y ∉ g10 :: (Value.slice A91 m91 c91).ownBlock.toList := fun hm => by
     rcases List.mem_cons.1 hm with h1 | h1
     · have := RW1.out.rlt 3 (by omega); have h2 : g10 < V3.heap.size := this; omega
     · exact (OX1.out _ h1).2 rfl
   have hg2n1 : g2 ∉ g10 :: (Value.slice A91 m91 c91).ownBlock.toList := fun hm => by
     have h3 : g2 < V3.heap.size := (Array.getElem?_eq_some_iff.1 O2.out).1
     rcases List.mem_cons.1 hm with h1 | h1
     · first | exact HD2.out.1 h1 | exact HD2.out.2.1 h1 | exact HD2.out.2.2.1 h1 | exact HD2.out.2.2.2 h1
     · have := (OX1.out _ h1).1; omega
   have HB2 := Lib.hid (hkZ1.blk hyn1 HBY.out)
   have IX2 := Lib.hid (IX1.out.kept hkZ1 hg2n1)
   have hk3X2 := hkZ31
   have TH2 := Lib.hid (TH1.out.kept hkZ1 (fun hm9 => by
     rcases List.mem_cons.1 hm9 with h1 | h1
     · exact (HNE.out g10 (by simp)).1 h1
     · have := (OX1.out _ h1).1; have := l12; omega) (fun i9 b9 hi9 hb9 hm9 => by
     rcases List.mem_cons.1 hm9 with h1 | h1
     · have := HHM.out.2.2 i9 b9 hb9; have h2 : g10 < V3.heap.size := RW1.out.rlt 3 (by omega); omega
     · exact absurd rfl ((own_tag (RW1.out.own 3 sn (by omega) (by assumption)) (by rw [HV91.out]; simpa using h1)).ne_map (TH1.out.is i9 b9 hi9 hb9).obj)))
   have TE2 := Lib.hid (TE1.out.kept hkZ1 (fun hm9 => by
     rcases List.mem_cons.1 hm9 with h1 | h1
     · exact (HNE.out g10 (by simp)).2.1 h1
     · have := (OX1.out _ h1).1; have := l17; omega) (fun i9 b9 hi9 hb9 hm9 => by
     rcases List.mem_cons.1 hm9 with h1 | h1
     · have := HEM1.out.2.2 i9 b9 hb9; have h2 : g10 < V3.heap.size := RW1.out.rlt 3 (by omega); have h3 := HS1.out; omega
     · exact absurd rfl ((own_tag (RW1.out.own 3 sn (by omega) (by assumption)) (by rw [HV91.out]; simpa using h1)).ne_map (TE1.out.is i9 b9 hi9 hb9).obj)))
   have HEM2 := HEM1
   clear hRZ1 hY1 hv1 hyn1 hg2n1 rX1 fX1 xg1 xy1 xr1 OWN1 hsn1 hga1 hl81 HAB1
   go_wp2_with fail
   exact ⟨⟨j + 1, v1, by omega, by go_num, TH2, TE2, hk3X2, IX2, RW2⟩, by simp [intOf]; omega⟩
 obtain rfl : n4 = j := by omega
 have hd12 : g ≠ g12 ∧ g ≠ g17 ∧ g ≠ g19 ∧ g12 ≠ g17 ∧ g12 ≠ g19 ∧ g17 ≠ g19 := ⟨HBG.out.ne HPC.out.h12.1 (by decide), HBG.out.ne HPC.out.h17.1 (by decide), HBG.out.ne HPC.out.h19.1 (by decide), HPC.out.h12.1.ne HPC.out.h17.1 (by decide), HPC.out.h12.1.ne HPC.out.h19.1 (by decide), HPC.out.h17.1.ne HPC.out.h19.1 (by decide)⟩
 have hn19 : g19 ∉ [g2, g4, g6, g8, g10, g12, g17] := by
   have h1 := HPC.out.h19.1.ne HPC.out.h2.1 (by decide); have h2 := HPC.out.h19.1.ne HPC.out.h4.1 (by decide); have h3 := HPC.out.h19.1.ne HPC.out.h6.1 (by decide); have h4 := HPC.out.h19.1.ne HPC.out.h8.1 (by decide); have h5 := HPC.out.h19.1.ne HPC.out.h10.1 (by decide); have h6 := HPC.out.h19.1.ne HPC.out.h12.1 (by decide); have h7 := HPC.out.h19.1.ne HPC.out.h17.1 (by decide)
   simp [h1, h2, h3, h4, h5, h6, h7]
 have l12 : g12 < V3.heap.size := (Array.getElem?_eq_some_iff.1 O12.out).1
 have l17 : g17 < V3.heap.size := (Array.getElem?_eq_some_iff.1 O17.out).1
 have l19 : g19 < V3.heap.size := (Array.getElem?_eq_some_iff.1 O19.out).1
 have o19 := (hkz.block g19 l19 hn19).trans O19.out
 have hk3z := hkz.size
 obtain ⟨O, hOd⟩ : ∃ O : Nat → Prop, O = fun x => x = g ∨ x = g12 ∨ x = g17 ∨ x = g19 ∨ (∃ n, n < n1 ∧ hm n = some x) ∨ (∃ n, n < n2 ∧ em n = some x) := ⟨_, rfl⟩
 have hO : ∀ x, O x → w.heap.size ≤ x ∧ x < wz.heap.size := fun x hx => by
   have h1 := hB.size; have h2 := HPC.out.h12.2; have h3 := HPC.out.h17.2; have h4 := HPC.out.h19.2; have h5 := hWg; have h6 := hkw3.size
   rw [hOd] at hx
   rcases hx with rfl | rfl | rfl | rfl | ⟨n, hn, hx⟩ | ⟨n, hn, hx⟩
   · exact ⟨by omega, by omega⟩
   · exact ⟨by omega, by omega⟩
   · exact ⟨by omega, by omega⟩
   · exact ⟨by omega, by omega⟩
   · exact ⟨by have := HHM.out.2.2 n x hx; omega, (TZ.out.is n x hn hx).lt⟩
   · exact ⟨by have := HEMQ.out.2.2 n x hx; have := HS1.out; omega, (TEZ.out.is n x hn hx).lt⟩
 have hlo : ∀ x, x < V3.heap.size → x ≠ g → x ≠ g12 → x ≠ g17 → x ≠ g19 → ¬ O x := fun x h1 h2 h3 h4 h5 hx => by
   rw [hOd] at hx
   rcases hx with h | h | h | h | ⟨n, hn, hx⟩ | ⟨n, hn, hx⟩
   · exact h2 h
   · exact h3 h
   · exact h4 h
   · exact h5 h
   · have := HHM.out.2.2 n x hx; omega
   · have := HEMQ.out.2.2 n x hx; have := HS1.out; omega
 have hs2 : ¬ O g2 := hlo g2 (Array.getElem?_eq_some_iff.1 O2.out).1 (HPC.out.h2.1.ne HBG.out (by decide)) (HNE.out g2 (by simp)).1.symm (HNE.out g2 (by simp)).2.1.symm (HNE.out g2 (by simp)).2.2.symm
 have hs4 : ∀ t, t < 4 → SafeB O wz (rsel g4 g6 g8 g10 t) := fun t ht => by
   have hm9 : rsel g4 g6 g8 g10 t ∈ [g2, g4, g6, g8, g10] ∧ rsel g4 g6 g8 g10 t ≠ g := by
     match t, ht with
     | 0, _ => exact ⟨by simp [rsel], HPC.out.h4.1.ne HBG.out (by decide)⟩
     | 1, _ => exact ⟨by simp [rsel], HPC.out.h6.1.ne HBG.out (by decide)⟩
     | 2, _ => exact ⟨by simp [rsel], HPC.out.h8.1.ne HBG.out (by decide)⟩
     | 3, _ => exact ⟨by simp [rsel], HPC.out.h10.1.ne HBG.out (by decide)⟩
   have h9 := HNE.out _ hm9.1
   exact ⟨Nat.lt_of_lt_of_le (RZ.out.rlt t ht) RZ.out.hlim, hlo _ (RZ.out.rlt t ht) hm9.2 h9.1.symm h9.2.1.symm h9.2.2.symm⟩
 have hrow : ∀ t, t < 4 → RowsC O wz (rsel g4 g6 g8 g10 t) n1 (LK p n2 n2 n2 n4 t) := fun t ht => by
   refine ⟨hs4 t ht, fun i hi => ?_⟩
   obtain ⟨A, c, e1, e2, e3⟩ := SIn.of_own (RZ.out.own t i ht hi)
   refine ⟨A, _, c, by rw [← e1]; exact RZ.out.cell t i ht hi, e2, fun _ a ha => ⟨(e3 a ha).2, fun hx => ?_⟩⟩
   have h1 := (e3 a ha).1
   have h2 : (v t i).ownBlock = some a.block := by rw [e1, ha]; rfl
   have h3 := own_tag (RZ.out.own t i ht hi) h2
   rw [hOd] at hx
   rcases hx with h | h | h | h | ⟨n, hn, hx⟩ | ⟨n, hn, hx⟩
   · omega
   · omega
   · omega
   · omega
   · exact absurd rfl (h3.ne_map (TZ.out.is n _ hn hx).obj)
   · exact absurd rfl (h3.ne_map (TEZ.out.is n _ hn hx).obj)
 have M0 : ∃ K : Kn, K.kv = .map kr ∧ Inp p K w ∧ ∃ G, Mem p K w g O G wz noSt := by
   have oO : ∀ x, (x = g ∨ x = g12 ∨ x = g17 ∨ x = g19 ∨ (∃ n, n < n1 ∧ hm n = some x) ∨ (∃ n, n < n2 ∧ em n = some x)) → O x := fun x hx => by rw [hOd]; exact hx
   refine ⟨⟨A1, A2, A3, A4, n1, c1, n2, c2, n3, c3, n4, c4, g2, g4, g6, g8, g10, g12, g17, g19, .map kr⟩, rfl, ⟨HND.out, HED.out, HFL.out, HSD.out⟩, ⟨hm, em, fun _ => 0, fun _ => 0, fun _ _ => .slice none 0 0, fun _ _ => .slice none 0 0, fun _ => .slice none 0 0, qA, rA, 0, qc, rc⟩, ?_⟩
   refine { low := ?_, og := hO, ob := oO _ (.inl rfl), box := ?_, start := ⟨⟨IZ.out.1, fun hx => ?_⟩, IZ.out.2.1⟩, out := ?_, calls := ?_, rets := ?_, seeds := ?_, held := TZ.out, ent := TEZ.out, oh := oO _ (.inr (.inl rfl)), oe := oO _ (.inr (.inr (.inl rfl))), opr := oO _ (.inr (.inr (.inr (.inl rfl)))), ohm := fun n x hn hx => oO x (.inr (.inr (.inr (.inr (.inl ⟨n, hn, hx⟩))))), oem := fun n x hn hx => oO x (.inr (.inr (.inr (.inr (.inr ⟨n, hn, hx⟩))))), opv := fun _ _ _ h => (by cases h), hbits := fun _ _ _ => BtV.nil _ _, ebits := fun _ _ _ => BtV.nil _ _, prow := fun n hn => ?_, pfr := fun n => by simp [World.frozen?, o19], pown := fun n _ => World.ownsRow_nil _ _ _ _, dist := hd12, dm := fun n k x hn hk hx hy => (by have h1 := HHS.out n x hn hx; have h2 := HEMQ.out.2.2 k x hy; omega), dmb := fun n x hn hx => (by have h1 := HHM.out.2.2 n x hx; exact ⟨by omega, by show x ≠ g19; omega⟩), deb := fun n x hn hx => (by have h1 := HEMQ.out.2.2 n x hx; have h2 := HS1.out; exact ⟨by omega, by show x ≠ g19; omega⟩), dpv := fun _ _ _ h => (by cases h), dpp := fun _ _ _ _ _ h => (by cases h), queue := ⟨⟨⟨rfl, fun h => absurd h (Nat.lt_irrefl 0)⟩, HQ1.out.2⟩, fun h => absurd h (Nat.lt_irrefl 0)⟩, rank := ⟨⟨rfl, fun h => absurd h (Nat.lt_irrefl 0)⟩, HR1.out.2⟩, hcb := fun _ _ => by rw [Nat.zero_add]; exact List.countP_le_length, ecb := fun _ _ => by rw [Nat.zero_add]; exact List.countP_le_length, pdb := fun _ _ => by show ([] : List (Nat × Nat)).length + _ ≤ _; rw [List.length_nil, Nat.zero_add]; exact List.countP_le_length, hsm := fun n hn => HHM.out.1 n hn, esm := fun n hn => HEMQ.out.1 n hn, hneg := fun _ _ _ _ => rfl }
   · have h1 : Below w.heap.size w V3 := hkw3.toBelow
     exact hkz.below h1 h1.size (fun x hx => Nat.le_trans hB.size (HXW.out x hx))
   · have h9 := hkz.blk hgn HBX.out
     unfold sbox
     rw [HMN.out, HF.out]
     exact h9
   · exact hs2 hx
   · have h9 := hrow 0 (by omega)
     have e : LK p n2 n2 n2 n4 0 = fun i => ofNats (outL p i) := by rw [← HED.out.1]; rfl
     rw [e] at h9
     exact h9
   · have h9 := hrow 1 (by omega)
     have e : LK p n2 n2 n2 n4 1 = fun i => ofNats (callL p i) := by rw [← HED.out.1]; rfl
     rw [e] at h9
     exact h9
   · have h9 := hrow 2 (by omega)
     have e : LK p n2 n2 n2 n4 2 = fun i => ofNats (retL p i) := by rw [← HED.out.1]; rfl
     rw [e] at h9
     exact h9
   · have h9 := hrow 3 (by omega)
     have e : LK p n2 n2 n2 n4 3 = fun i => (seedL p i).map Sd.f := by
       funext i
       show LK3 p n4 i = _
       unfold LK3 seedL
       rw [← HSD.out.1, List.take_length]
     rw [e] at h9
     exact h9
   · have h9 := rep_at (v := Value.slice none 0 0) hn
     rw [HMP.out] at h9
     simp [World.cell?, o19, h9]
 obtain ⟨K, hkv, hI, G, hM⟩ := M0
 have HI := Lib.hid hI
 have HM := Lib.hid hM
 have HKV := Lib.hid hkv
 clear hI hM hkv hrow hs4 hs2 hlo hO hOd o19 hn19
 go_wp2_with fail
 go_ret
 exact ⟨K, g, O, G, rfl, HKV.out, HI.out, HM.out⟩
end Go.Proofs.YtooejoajojanjaaGreatDoor
