/- Texts: Bi Bh. -/
import Derived.Test.YtincpmdldpakkaaGreatDoorJb08
import Derived.Test.YtincpmdldpakkaaGreatDoorJb10
import Derived.Test.YtincpmdldpakkaaGreatDoorJb06
import Derived.Maps.OwnOps
import Derived.WalkSpells
namespace Go.Df
open Go.RowKit Go.Maps
def PutT (P : Program) (k tM : TypeId) (z : Value) (w : World) (r N : Nat) (m : Nat → Option Nat) (c : Nat → Nat) (v : Nat → Value → Value) (n : Nat) (key x : Value) (e : Ending) (w' : World) : Prop :=
 ∃ m', e = .returned (.tuple #[]) ∧ Tb P k tM z w' r N m' (fun i => if i = n then c n + 1 else c i) (updV v n key x) ∧ Kept (r :: (m n).toList) w w' ∧ (∀ i, i ≠ n → m' i = m i) ∧ (m' n = m n ∨ (m n = none ∧ ∃ b, m' n = some b ∧ w.heap.size ≤ b))
theorem updV_at (v : Nat → Value → Value) (n : Nat) (key x : Value) : updV v n key x n key = x := by simp [updV]
theorem updV_key (v : Nat → Value → Value) (n : Nat) (key x y : Value) (h : y ≠ key) : updV v n key x n y = v n y := by simp [updV, h]
end Go.Df
namespace Go.Proofs.YtincpmdldpakkaaGreatDoor
open Go.RowKit Go.Df Go.Maps
attribute [local go_sem ↓] Go.wp_at_zero Go.wp_at_succ
theorem Tryz.rowPair : (101 : TypeId) < Tryz.prog.types.size := of_decide_eq_true (by kernel_rfl)
theorem Tryz.deepPair : Tryz.prog.keyTypeAt (Tryz.prog.types.size + 1) 101 = true := by kernel_rfl
theorem Tryz.deepPair2 : Tryz.prog.keyTypeAt 2 101 = true := by kernel_rfl
theorem Tryz.fieldsPair : fieldsOf Tryz.prog 101 = [("In", 3, 0), ("Out", 3, 1)] := by kernel_rfl
theorem Tryz.lawPair : Maps.Keyed Tryz.prog 101 := keyed_struct Tryz.laidOut Tryz.rowPair Tryz.deepPair2 Tryz.fieldsPair (by simp)
theorem Tryz.cellsPair : Tryz.prog.cellsOf 101 = 2 := by kernel_rfl
theorem Tryz.keyPair (a b : Int) (ha : (Lit.int .i64 a).wf = true) (hb : (Lit.int .i64 b).wf = true) : ∃ kl, keyOf Tryz.prog 101 (.agg #[.int .i64 a, .int .i64 b]) = some kl :=
 keyOf_two Tryz.fieldsPair (by decide) (by decide) Tryz.deepPair Tryz.rowPair Tryz.cellsPair Tryz.undInt Tryz.cellsInt a b ha hb
theorem Tryz.zeroX (w : World) : (zeroValue 71).run Tryz.prog w = .ok (.agg #[.int .i64 0, .int .i64 0, .int .i64 0]) w := by kernel_rfl
theorem Tryz.zeroV (w : World) : (zeroValue 46).run Tryz.prog w = .ok (.agg #[.int .i64 0, .int .i64 0]) w := by kernel_rfl
theorem Tryz.zeroL (w : World) : (zeroValue 30).run Tryz.prog w = .ok (.slice none 0 0) w := by kernel_rfl
theorem Tryz.mapPX : Tryz.prog.underlying 84 = some (.map 101 71) := by kernel_rfl
theorem Tryz.mapIL : Tryz.prog.underlying 233 = some (.map 3 30) := by kernel_rfl
theorem Tryz.mapIV : Tryz.prog.underlying 179 = some (.map 3 46) := by kernel_rfl
abbrev TbX (w : World) (r N : Nat) (m : Nat → Option Nat) (c : Nat → Nat) (v : Nat → Value → Value) : Prop := Tb Tryz.prog 101 84 (.agg #[.int .i64 0, .int .i64 0, .int .i64 0]) w r N m c v
abbrev TbL (w : World) (r N : Nat) (m : Nat → Option Nat) (c : Nat → Nat) (v : Nat → Value → Value) : Prop := Tb Tryz.prog 3 233 (.slice none 0 0) w r N m c v
abbrev TbV (w : World) (r N : Nat) (m : Nat → Option Nat) (c : Nat → Nat) (v : Nat → Value → Value) : Prop := Tb Tryz.prog 3 179 (.agg #[.int .i64 0, .int .i64 0]) w r N m c v
set_option maxRecDepth 100000 in
set_option maxHeartbeats 4000000 in
theorem getx_any (r N c0 n : Nat) (a d : Nat) (m : Nat → Option Nat) (c : Nat → Nat) (v : Nat → Value → Value) (w : World) (ht : TbX w r N m c v) (hn : n < N) (ha : a ≤ 1000000) (hd : d ≤ 1000000) (y0 y1 y2 : Int) (hv : v n (.agg #[.int .i64 a, .int .i64 d]) = .agg #[.int .i64 y0, .int .i64 y1, .int .i64 y2]) :
   Calls Tryz.prog 83 #[.agg #[.slice (some ⟨r, 0, none⟩) N c0], .int .i64 n, .agg #[.int .i64 a, .int .i64 d]] w fun e w' => e = .returned (.agg #[.int .i64 y0, .int .i64 y1, .int .i64 y2]) ∧ Below w.heap.size w w' := by
 have HT := Lib.hid ht
 have hrl := ht.rtag.lt
 have HVV := Lib.hid hv
 clear ht hv
 have hn1 : (n : Int) < (N : Int) := by omega
 obtain ⟨kl, hkl⟩ := Tryz.keyPair (a : Int) (d : Int) (WalkArith.wf_i64 (by omega)) (WalkArith.wf_i64 (by omega))
 have HK := Lib.hid hkl
 clear hkl
 go_enter Tryz.func83, Tryz.ntmps83
 go_upto_region 1 with fail
 refine wp_named (fun W => ∃ b0 b1 b2, w.heap.size = b0 ∧ w.heap.size + 1 = b1 ∧ w.heap.size + 1 + 1 = b2 ∧ Blk W b0 [.slice (some ⟨r, 0, none⟩) N c0] ∧ Blk W b1 [.int .i64 a, .int .i64 d] ∧ Blk W b2 [.int .i64 0, .int .i64 0, .int .i64 0] ∧ Below w.heap.size w W) ⟨_, _, _, rfl, rfl, rfl, ?_, ?_, ?_, ?_⟩ ?_
 · exact ((Blk.new _ _ _ _ (by first | rfl | simp)).alloc _).alloc _
 · exact (Blk.new _ _ _ _ (by first | rfl | simp)).alloc _
 · exact kbn
 · go_grown
 rintro W ⟨b0, b1, b2, e0, e1, e2, B0, B1, B2, hB⟩
 rw [e2, e1, e0]
 have G0 : w.heap.size ≤ b0 := by omega
 have n01 : b0 ≠ b1 := by omega
 have n02 : b0 ≠ b2 := by omega
 have G1 : w.heap.size ≤ b1 := by omega
 have n10 : b1 ≠ b0 := by omega
 have n12 : b1 ≠ b2 := by omega
 have G2 : w.heap.size ≤ b2 := by omega
 have n20 : b2 ≠ b0 := by omega
 have n21 : b2 ≠ b1 := by omega
 clear e0 e1 e2
 have ⟨L0, C0, F0⟩ := B0
 have ⟨L1, C1, F1⟩ := B1
 have ⟨L2, C2, F2⟩ := B2
 have hkW : Kept [] w W := (Kept.refl _ _).call hB
 have HTW := Lib.hid (HT.out.kept hkW (by simp) (by simp))
 have hcell := HTW.out.cell hn
 have hrW : r < W.heap.size := HTW.out.rtag.lt
 cases hm : m n with
 | none =>
   rw [hm] at hcell
   have HZ := Lib.hid (HTW.out.no n hn hm (.agg #[.int .i64 a, .int .i64 d]))
   have hrun : (Instr.lookup 84 (.map none) (.agg #[.int .i64 a, .int .i64 d]) false).run Tryz.prog W.drew = .ok (.agg #[.int .i64 y0, .int .i64 y1, .int .i64 y2]) W.drew := by
     have := Maps.look_nil (w := W.drew) false Tryz.lawPair Tryz.mapPX (Tryz.zeroX W.drew) HK.out
     rw [← HZ.out, HVV.out] at this
     simpa using this
   clear hm
   go_wp2_with fail
   refine wp_region_E 7 (fun w' => SX0 W w') (by kernel_rfl) (by (exact kp0)) (fun hHeld => ?_)
   refine WE_tk 0 ?_
   refine WE_tk 1 ?_
   refine WE_tk 2 ?_
   refine WE_tk 3 ?_
   refine WE_tk 4 ?_
   refine WE_tk 5 ?_
   refine WE_step 6 rfl (by kernel_rfl) (fun K hK => ?_)
   go_simp
   refine hK.out _ _ ?_ (fun hHeld => ?_)
   · (exact kp0)
   clear hK K
   refine WE_put ?_
   refine WE_last rfl (by kernel_rfl) (fun K hK => ?_)
   go_simp
   refine hK.out _ _ ?_
   clear hK K
   go_wp2_with fail
   refine bodyPost_ret (by simp [results, Tryz.results83, go_sem, *]; rfl) rfl ?_
   refine ⟨rfl, Kept.below (X := [b2]) hB hB.size (by simp; omega) ?_⟩
   exact ((((Kept.refl [b2] W).drew.set b2 0 _ (.inl (by simp))).set b2 1 _ (.inl (by simp))).set b2 2 _ (.inl (by simp)))
 | some b =>
   rw [hm] at hcell
   have hrun : (Instr.lookup 84 (.map (some b)) (.agg #[.int .i64 a, .int .i64 d]) false).run Tryz.prog W.drew = .ok (.agg #[.int .i64 y0, .int .i64 y1, .int .i64 y2]) W.drew := by
     have := ((HTW.out.is n b hn hm).same (w' := W.drew) rfl).look Tryz.lawPair Tryz.mapPX (Tryz.zeroX W.drew) HK.out
     rw [HVV.out] at this
     exact this
   clear hm
   go_wp2_with fail
   refine wp_region_E 7 (fun w' => SX0 W w') (by kernel_rfl) (by (exact kp0)) (fun hHeld => ?_)
   refine WE_tk 0 ?_
   refine WE_tk 1 ?_
   refine WE_tk 2 ?_
   refine WE_tk 3 ?_
   refine WE_tk 4 ?_
   refine WE_tk 5 ?_
   refine WE_step 6 rfl (by kernel_rfl) (fun K hK => ?_)
   go_simp
   refine hK.out _ _ ?_ (fun hHeld => ?_)
   · (exact kp0)
   clear hK K
   refine WE_put ?_
   refine WE_last rfl (by kernel_rfl) (fun K hK => ?_)
   go_simp
   refine hK.out _ _ ?_
   clear hK K
   go_wp2_with fail
   refine bodyPost_ret (by simp [results, Tryz.results83, go_sem, *]; rfl) rfl ?_
   refine ⟨rfl, Kept.below (X := [b2]) hB hB.size (by simp; omega) ?_⟩
   exact ((((Kept.refl [b2] W).drew.set b2 0 _ (.inl (by simp))).set b2 1 _ (.inl (by simp))).set b2 2 _ (.inl (by simp)))
set_option maxRecDepth 100000 in
set_option maxHeartbeats 4000000 in
theorem putx_any (r N c0 n : Nat) (a d : Nat) (m : Nat → Option Nat) (c : Nat → Nat) (v : Nat → Value → Value) (y0 y1 y2 : Int) (w : World) (ht : TbX w r N m c v) (hn : n < N) (ha : a ≤ 1000000) (hd : d ≤ 1000000) (hc : c n < maxLen) (hz : ¬ (y0 = 0 ∧ y1 = 0 ∧ y2 = 0)) :
   Calls Tryz.prog 135 #[.agg #[.slice (some ⟨r, 0, none⟩) N c0], .int .i64 n, .agg #[.int .i64 a, .int .i64 d], .agg #[.int .i64 y0, .int .i64 y1, .int .i64 y2]] w (PutT Tryz.prog 101 84 (.agg #[.int .i64 0, .int .i64 0, .int .i64 0]) w r N m c v n (.agg #[.int .i64 a, .int .i64 d]) (.agg #[.int .i64 y0, .int .i64 y1, .int .i64 y2])) := by
 have HT := Lib.hid ht
 have hrl := ht.rtag.lt
 clear ht
 have hn1 : (n : Int) < (N : Int) := by omega
 obtain ⟨kl, hkl⟩ := Tryz.keyPair (a : Int) (d : Int) (WalkArith.wf_i64 (by omega)) (WalkArith.wf_i64 (by omega))
 have HK := Lib.hid hkl
 clear hkl
 have hmm := @run_makeMap Tryz.prog
 have hqm := fun w r => run_eql_map_nil (P := Tryz.prog) w 84 101 71 r Tryz.mapPX
 go_enter Tryz.func135, Tryz.ntmps135
 go_upto_region 1 with fail
 refine wp_named (fun W => ∃ b0 b1 b2, w.heap.size = b0 ∧ w.heap.size + 1 = b1 ∧ w.heap.size + 1 + 1 = b2 ∧ Blk W b0 [.slice (some ⟨r, 0, none⟩) N c0] ∧ Blk W b1 [.int .i64 a, .int .i64 d] ∧ Blk W b2 [.int .i64 y0, .int .i64 y1, .int .i64 y2] ∧ Below w.heap.size w W) ⟨_, _, _, rfl, rfl, rfl, ?_, ?_, ?_, ?_⟩ ?_
 · exact ((Blk.new _ _ _ _ (by first | rfl | simp)).alloc _).alloc _
 · exact (Blk.new _ _ _ _ (by first | rfl | simp)).alloc _
 · exact kbn
 · go_grown
 rintro W ⟨b0, b1, b2, e0, e1, e2, B0, B1, B2, hB⟩
 rw [e2, e1, e0]
 have G0 : w.heap.size ≤ b0 := by omega
 have n01 : b0 ≠ b1 := by omega
 have n02 : b0 ≠ b2 := by omega
 have G1 : w.heap.size ≤ b1 := by omega
 have n10 : b1 ≠ b0 := by omega
 have n12 : b1 ≠ b2 := by omega
 have G2 : w.heap.size ≤ b2 := by omega
 have n20 : b2 ≠ b0 := by omega
 have n21 : b2 ≠ b1 := by omega
 clear e0 e1 e2
 have ⟨L0, C0, F0⟩ := B0
 have ⟨L1, C1, F1⟩ := B1
 have ⟨L2, C2, F2⟩ := B2
 have hkW : Kept [] w W := (Kept.refl _ _).call hB
 have HTW := Lib.hid (HT.out.kept hkW (by simp) (by simp))
 have hcell := HTW.out.cell hn
 have hfr := HTW.out.rtag.frozen n
 have hrW : r < W.heap.size := HTW.out.rtag.lt
 have hb0r : b0 ≠ r := by omega
 have hb1r : b1 ≠ r := by omega
 have hb2r : b2 ≠ r := by omega
 cases hm : m n with
 | none =>
   rw [hm] at hcell
   go_upto_region 3 with fail
   refine wp_named (fun V => ∃ b, W.heap.size = b ∧ TbX V r N (fun i => if i = n then some b else m i) c v ∧ Kept [r] W V) ⟨_, rfl, ?_, ?_⟩ ?_
   · rw [← World.setCell_alloc_past _ _ _ _ hrW]
     exact HTW.out.fresh hn hm rfl
   · exact ((Kept.refl [r] W).set r n _ (.inl (by simp))).alloc _
   rintro V ⟨b, eb, TV, hkV⟩
   have ⟨L0', C0', F0'⟩ := hkV.blk (by simpa using hb0r) B0
   have ⟨L1', C1', F1'⟩ := hkV.blk (by simpa using hb1r) B1
   have ⟨L2', C2', F2'⟩ := hkV.blk (by simpa using hb2r) B2
   have hcV := TV.cell hn
   rw [if_pos rfl] at hcV
   have hrV : r < V.heap.size := TV.rtag.lt
   have MB := TV.is n b hn (if_pos rfl)
   have HTV := Lib.hid TV
   have HMB := Lib.hid MB
   have HM := Lib.hid hm
   clear C0 F0 C1 F1 C2 F2 hcell hfr hm TV MB
   obtain ⟨w9, hrun, hmt, hk9⟩ := (HMB.out.same (w' := V.drew) rfl).store Tryz.lawPair Tryz.mapPX hc HK.out (updV v n (.agg #[.int .i64 a, .int .i64 d]) (.agg #[.int .i64 y0, .int .i64 y1, .int .i64 y2]) n) (updV_at _ _ _ _) (fun x hx => updV_key _ _ _ _ _ hx) (by intro h9; simp at h9; omega)
   refine wp_region_E 7 (fun w' => SX0 V w') (by kernel_rfl) (by (exact kp0)) (fun hHeld => ?_)
   refine WE_tk 0 ?_
   refine WE_tk 1 ?_
   refine WE_tk 2 ?_
   refine WE_tk 3 ?_
   refine WE_tk 4 ?_
   refine WE_tk 5 ?_
   refine WE_tk 6 ?_
   refine WE_last rfl (by kernel_rfl) (fun K hK => ?_)
   go_simp
   refine hK.out _ _ ?_
   clear hK K
   go_wp2_with fail
   go_end0
   replace hk9 : Kept [b] V w9 := ((Kept.refl [b] V).drew).next hk9 (fun y hy => .inl hy)
   have hT := HTV.out.stored hn (if_pos rfl) hk9 hmt
   refine ⟨_, rfl, hT, ?_, fun i hi => if_neg hi, .inr ⟨HM.out, b, if_pos rfl, ?_⟩⟩
   · rw [HM.out]
     have h1 : Kept [r] w V := Kept.next (keptWide hkW (by simp)) hkV (by simp)
     exact h1.next hk9 (by intro y hy; right; simp at hy; subst hy; have := hkW.size; omega)
   · have := hkW.size; omega
 | some b =>
   rw [hm] at hcell
   have HMB := Lib.hid (HTW.out.is n b hn hm)
   have HM := Lib.hid hm
   clear hm
   go_upto_region 3 with fail
   obtain ⟨w9, hrun, hmt, hk9⟩ := (HMB.out.same (w' := W.drew) rfl).store Tryz.lawPair Tryz.mapPX hc HK.out (updV v n (.agg #[.int .i64 a, .int .i64 d]) (.agg #[.int .i64 y0, .int .i64 y1, .int .i64 y2]) n) (updV_at _ _ _ _) (fun x hx => updV_key _ _ _ _ _ hx) (by intro h9; simp at h9; omega)
   refine wp_region_E 7 (fun w' => SX0 W w') (by kernel_rfl) (by (exact kp0)) (fun hHeld => ?_)
   refine WE_tk 0 ?_
   refine WE_tk 1 ?_
   refine WE_tk 2 ?_
   refine WE_tk 3 ?_
   refine WE_tk 4 ?_
   refine WE_tk 5 ?_
   refine WE_tk 6 ?_
   refine WE_last rfl (by kernel_rfl) (fun K hK => ?_)
   go_simp
   refine hK.out _ _ ?_
   clear hK K
   go_wp2_with fail
   go_end0
   replace hk9 : Kept [b] W w9 := ((Kept.refl [b] W).drew).next hk9 (fun y hy => .inl hy)
   have hT := HTW.out.stored hn HM.out hk9 hmt
   refine ⟨_, rfl, hT, ?_, fun i hi => rfl, .inl rfl⟩
   rw [HM.out]
   exact Kept.next (X := r :: [b]) (keptWide hkW (by simp)) hk9 (by simp)
set_option maxRecDepth 100000 in
set_option maxHeartbeats 4000000 in
theorem getl_any (r N c0 n : Nat) (a : Nat) (m : Nat → Option Nat) (c : Nat → Nat) (v : Nat → Value → Value) (w : World) (ht : TbL w r N m c v) (hn : n < N) (ha : a ≤ 1000000)  :
   Calls Tryz.prog 82 #[.agg #[.slice (some ⟨r, 0, none⟩) N c0], .int .i64 n, .int .i64 a] w fun e w' => e = .returned (v n (.int .i64 a)) ∧ Below w.heap.size w w' := by
 have HT := Lib.hid ht
 have hrl := ht.rtag.lt
 clear ht
 have hn1 : (n : Int) < (N : Int) := by omega
 obtain ⟨kl, hkl⟩ : ∃ kl, keyOf Tryz.prog 3 (.int .i64 (a : Int)) = some kl := ⟨_, Tryz.keyInt (a : Int) (WalkArith.wf_i64 (by omega))⟩
 have HK := Lib.hid hkl
 clear hkl
 go_enter Tryz.func82, Tryz.ntmps82
 go_upto_region 1 with fail
 refine wp_named (fun W => ∃ b0, w.heap.size = b0 ∧ Blk W b0 [.slice (some ⟨r, 0, none⟩) N c0] ∧ Below w.heap.size w W) ⟨_, rfl, ?_, ?_⟩ ?_
 · exact kbn
 · go_grown
 rintro W ⟨b0, e0, B0, hB⟩
 rw [e0]
 have G0 : w.heap.size ≤ b0 := by omega
 clear e0
 have ⟨L0, C0, F0⟩ := B0
 have hkW : Kept [] w W := (Kept.refl _ _).call hB
 have HTW := Lib.hid (HT.out.kept hkW (by simp) (by simp))
 have hcell := HTW.out.cell hn
 have hrW : r < W.heap.size := HTW.out.rtag.lt
 cases hm : m n with
 | none =>
   rw [hm] at hcell
   have HZ := Lib.hid (HTW.out.no n hn hm (.int .i64 a))
   have hrun : (Instr.lookup 233 (.map none) (.int .i64 a) false).run Tryz.prog W = .ok (.slice none 0 0) W := by
     have := Maps.look_nil (w := W) false Tryz.lawInt Tryz.mapIL (Tryz.zeroL W) HK.out
     simpa using this
   clear hm
   go_wp2
   go_ret
   rw [HZ.out]
   exact ⟨rfl, hB⟩
 | some b =>
   rw [hm] at hcell
   have hrun : (Instr.lookup 233 (.map (some b)) (.int .i64 a) false).run Tryz.prog W = .ok (v n (.int .i64 a)) W := by
     have := ((HTW.out.is n b hn hm).same (w' := W) rfl).look Tryz.lawInt Tryz.mapIL (Tryz.zeroL W) HK.out
     exact this
   clear hm
   go_wp2
   go_ret
   exact ⟨rfl, hB⟩
set_option maxRecDepth 100000 in
set_option maxHeartbeats 4000000 in
theorem putl_any (r N c0 n : Nat) (a : Nat) (m : Nat → Option Nat) (c : Nat → Nat) (v : Nat → Value → Value) (A : Option Addr) (y0 y1 : Nat) (w : World) (ht : TbL w r N m c v) (hn : n < N) (ha : a ≤ 1000000) (hc : c n < maxLen) (hz : y0 ≠ 0 := by omega) :
   Calls Tryz.prog 133 #[.agg #[.slice (some ⟨r, 0, none⟩) N c0], .int .i64 n, .int .i64 a, .slice A y0 y1] w (PutT Tryz.prog 3 233 (.slice none 0 0) w r N m c v n (.int .i64 a) (.slice A y0 y1)) := by
 have HT := Lib.hid ht
 have hrl := ht.rtag.lt
 clear ht
 have hn1 : (n : Int) < (N : Int) := by omega
 obtain ⟨kl, hkl⟩ : ∃ kl, keyOf Tryz.prog 3 (.int .i64 (a : Int)) = some kl := ⟨_, Tryz.keyInt (a : Int) (WalkArith.wf_i64 (by omega))⟩
 have HK := Lib.hid hkl
 clear hkl
 have hmm := @run_makeMap Tryz.prog
 have hqm := fun w r => run_eql_map_nil (P := Tryz.prog) w 233 3 30 r Tryz.mapIL
 go_enter Tryz.func133, Tryz.ntmps133
 go_upto_region 1 with fail
 refine wp_named (fun W => ∃ b0, w.heap.size = b0 ∧ Blk W b0 [.slice (some ⟨r, 0, none⟩) N c0] ∧ Below w.heap.size w W) ⟨_, rfl, ?_, ?_⟩ ?_
 · exact kbn
 · go_grown
 rintro W ⟨b0, e0, B0, hB⟩
 rw [e0]
 have G0 : w.heap.size ≤ b0 := by omega
 clear e0
 have ⟨L0, C0, F0⟩ := B0
 have hkW : Kept [] w W := (Kept.refl _ _).call hB
 have HTW := Lib.hid (HT.out.kept hkW (by simp) (by simp))
 have hcell := HTW.out.cell hn
 have hfr := HTW.out.rtag.frozen n
 have hrW : r < W.heap.size := HTW.out.rtag.lt
 have hb0r : b0 ≠ r := by omega
 cases hm : m n with
 | none =>
   rw [hm] at hcell
   go_upto_region 3 with fail
   refine wp_named (fun V => ∃ b, W.heap.size = b ∧ TbL V r N (fun i => if i = n then some b else m i) c v ∧ Kept [r] W V) ⟨_, rfl, ?_, ?_⟩ ?_
   · rw [← World.setCell_alloc_past _ _ _ _ hrW]
     exact HTW.out.fresh hn hm rfl
   · exact ((Kept.refl [r] W).set r n _ (.inl (by simp))).alloc _
   rintro V ⟨b, eb, TV, hkV⟩
   have ⟨L0', C0', F0'⟩ := hkV.blk (by simpa using hb0r) B0
   have hcV := TV.cell hn
   rw [if_pos rfl] at hcV
   have hrV : r < V.heap.size := TV.rtag.lt
   have MB := TV.is n b hn (if_pos rfl)
   have HTV := Lib.hid TV
   have HMB := Lib.hid MB
   have HM := Lib.hid hm
   clear C0 F0 hcell hfr hm TV MB
   obtain ⟨w9, hrun, hmt, hk9⟩ := (HMB.out.same (w' := V) rfl).store Tryz.lawInt Tryz.mapIL hc HK.out (updV v n (.int .i64 a) (.slice A y0 y1) n) (updV_at _ _ _ _) (fun x hx => updV_key _ _ _ _ _ hx) (by intro h9; simp at h9; omega)
   go_wp2
   go_end0
   have hT := HTV.out.stored hn (if_pos rfl) hk9 hmt
   refine ⟨_, rfl, hT, ?_, fun i hi => if_neg hi, .inr ⟨HM.out, b, if_pos rfl, ?_⟩⟩
   · rw [HM.out]
     have h1 : Kept [r] w V := Kept.next (keptWide hkW (by simp)) hkV (by simp)
     exact h1.next hk9 (by intro y hy; right; simp at hy; subst hy; have := hkW.size; omega)
   · have := hkW.size; omega
 | some b =>
   rw [hm] at hcell
   have HMB := Lib.hid (HTW.out.is n b hn hm)
   have HM := Lib.hid hm
   clear hm

   obtain ⟨w9, hrun, hmt, hk9⟩ := (HMB.out.same (w' := W) rfl).store Tryz.lawInt Tryz.mapIL hc HK.out (updV v n (.int .i64 a) (.slice A y0 y1) n) (updV_at _ _ _ _) (fun x hx => updV_key _ _ _ _ _ hx) (by intro h9; simp at h9; omega)
   go_wp2
   go_end0
   have hT := HTW.out.stored hn HM.out hk9 hmt
   refine ⟨_, rfl, hT, ?_, fun i hi => rfl, .inl rfl⟩
   rw [HM.out]
   exact Kept.next (X := r :: [b]) (keptWide hkW (by simp)) hk9 (by simp)
set_option maxRecDepth 100000 in
set_option maxHeartbeats 4000000 in
theorem getv_any (r N c0 n : Nat) (a : Nat) (m : Nat → Option Nat) (c : Nat → Nat) (v : Nat → Value → Value) (w : World) (ht : TbV w r N m c v) (hn : n < N) (ha : a ≤ 1000000) (y0 y1 : Int) (hv : v n (.int .i64 a) = .agg #[.int .i64 y0, .int .i64 y1]) :
   Calls Tryz.prog 35 #[.agg #[.slice (some ⟨r, 0, none⟩) N c0], .int .i64 n, .int .i64 a] w fun e w' => e = .returned (.agg #[.int .i64 y0, .int .i64 y1]) ∧ Below w.heap.size w w' := by
 have HT := Lib.hid ht
 have hrl := ht.rtag.lt
 have HVV := Lib.hid hv
 clear ht hv
 have hn1 : (n : Int) < (N : Int) := by omega
 obtain ⟨kl, hkl⟩ : ∃ kl, keyOf Tryz.prog 3 (.int .i64 (a : Int)) = some kl := ⟨_, Tryz.keyInt (a : Int) (WalkArith.wf_i64 (by omega))⟩
 have HK := Lib.hid hkl
 clear hkl
 go_enter Tryz.func35, Tryz.ntmps35
 go_upto_region 1 with fail
 refine wp_named (fun W => ∃ b0 b1, w.heap.size = b0 ∧ w.heap.size + 1 = b1 ∧ Blk W b0 [.slice (some ⟨r, 0, none⟩) N c0] ∧ Blk W b1 [.int .i64 0, .int .i64 0] ∧ Below w.heap.size w W) ⟨_, _, rfl, rfl, ?_, ?_, ?_⟩ ?_
 · exact (Blk.new _ _ _ _ (by first | rfl | simp)).alloc _
 · exact kbn
 · go_grown
 rintro W ⟨b0, b1, e0, e1, B0, B1, hB⟩
 rw [e1, e0]
 have G0 : w.heap.size ≤ b0 := by omega
 have n01 : b0 ≠ b1 := by omega
 have G1 : w.heap.size ≤ b1 := by omega
 have n10 : b1 ≠ b0 := by omega
 clear e0 e1
 have ⟨L0, C0, F0⟩ := B0
 have ⟨L1, C1, F1⟩ := B1
 have hkW : Kept [] w W := (Kept.refl _ _).call hB
 have HTW := Lib.hid (HT.out.kept hkW (by simp) (by simp))
 have hcell := HTW.out.cell hn
 have hrW : r < W.heap.size := HTW.out.rtag.lt
 cases hm : m n with
 | none =>
   rw [hm] at hcell
   have HZ := Lib.hid (HTW.out.no n hn hm (.int .i64 a))
   have hrun : (Instr.lookup 179 (.map none) (.int .i64 a) false).run Tryz.prog W = .ok (.agg #[.int .i64 y0, .int .i64 y1]) W := by
     have := Maps.look_nil (w := W) false Tryz.lawInt Tryz.mapIV (Tryz.zeroV W) HK.out
     rw [← HZ.out, HVV.out] at this
     simpa using this
   clear hm
   go_wp2
   refine bodyPost_ret (by simp [results, Tryz.results35, go_sem, *]; rfl) rfl ?_
   refine ⟨rfl, Kept.below (X := [b1]) hB hB.size (by simp; omega) ?_⟩
   exact (((Kept.refl [b1] W).set b1 0 _ (.inl (by simp))).set b1 1 _ (.inl (by simp)))
 | some b =>
   rw [hm] at hcell
   have hrun : (Instr.lookup 179 (.map (some b)) (.int .i64 a) false).run Tryz.prog W = .ok (.agg #[.int .i64 y0, .int .i64 y1]) W := by
     have := ((HTW.out.is n b hn hm).same (w' := W) rfl).look Tryz.lawInt Tryz.mapIV (Tryz.zeroV W) HK.out
     rw [HVV.out] at this
     exact this
   clear hm
   go_wp2
   refine bodyPost_ret (by simp [results, Tryz.results35, go_sem, *]; rfl) rfl ?_
   refine ⟨rfl, Kept.below (X := [b1]) hB hB.size (by simp; omega) ?_⟩
   exact (((Kept.refl [b1] W).set b1 0 _ (.inl (by simp))).set b1 1 _ (.inl (by simp)))
set_option maxRecDepth 100000 in
set_option maxHeartbeats 4000000 in
theorem putv_any (r N c0 n : Nat) (a : Nat) (m : Nat → Option Nat) (c : Nat → Nat) (v : Nat → Value → Value) (y0 y1 : Int) (w : World) (ht : TbV w r N m c v) (hn : n < N) (ha : a ≤ 1000000) (hc : c n < maxLen) (hz : ¬ (y0 = 0 ∧ y1 = 0)) :
   Calls Tryz.prog 141 #[.agg #[.slice (some ⟨r, 0, none⟩) N c0], .int .i64 n, .int .i64 a, .agg #[.int .i64 y0, .int .i64 y1]] w (PutT Tryz.prog 3 179 (.agg #[.int .i64 0, .int .i64 0]) w r N m c v n (.int .i64 a) (.agg #[.int .i64 y0, .int .i64 y1])) := by
 have HT := Lib.hid ht
 have hrl := ht.rtag.lt
 clear ht
 have hn1 : (n : Int) < (N : Int) := by omega
 obtain ⟨kl, hkl⟩ : ∃ kl, keyOf Tryz.prog 3 (.int .i64 (a : Int)) = some kl := ⟨_, Tryz.keyInt (a : Int) (WalkArith.wf_i64 (by omega))⟩
 have HK := Lib.hid hkl
 clear hkl
 have hmm := @run_makeMap Tryz.prog
 have hqm := fun w r => run_eql_map_nil (P := Tryz.prog) w 179 3 46 r Tryz.mapIV
 go_enter Tryz.func141, Tryz.ntmps141
 go_upto_region 1 with fail
 refine wp_named (fun W => ∃ b0 b1, w.heap.size = b0 ∧ w.heap.size + 1 = b1 ∧ Blk W b0 [.slice (some ⟨r, 0, none⟩) N c0] ∧ Blk W b1 [.int .i64 y0, .int .i64 y1] ∧ Below w.heap.size w W) ⟨_, _, rfl, rfl, ?_, ?_, ?_⟩ ?_
 · exact (Blk.new _ _ _ _ (by first | rfl | simp)).alloc _
 · exact kbn
 · go_grown
 rintro W ⟨b0, b1, e0, e1, B0, B1, hB⟩
 rw [e1, e0]
 have G0 : w.heap.size ≤ b0 := by omega
 have n01 : b0 ≠ b1 := by omega
 have G1 : w.heap.size ≤ b1 := by omega
 have n10 : b1 ≠ b0 := by omega
 clear e0 e1
 have ⟨L0, C0, F0⟩ := B0
 have ⟨L1, C1, F1⟩ := B1
 have hkW : Kept [] w W := (Kept.refl _ _).call hB
 have HTW := Lib.hid (HT.out.kept hkW (by simp) (by simp))
 have hcell := HTW.out.cell hn
 have hfr := HTW.out.rtag.frozen n
 have hrW : r < W.heap.size := HTW.out.rtag.lt
 have hb0r : b0 ≠ r := by omega
 have hb1r : b1 ≠ r := by omega
 cases hm : m n with
 | none =>
   rw [hm] at hcell
   go_upto_region 3 with fail
   refine wp_named (fun V => ∃ b, W.heap.size = b ∧ TbV V r N (fun i => if i = n then some b else m i) c v ∧ Kept [r] W V) ⟨_, rfl, ?_, ?_⟩ ?_
   · rw [← World.setCell_alloc_past _ _ _ _ hrW]
     exact HTW.out.fresh hn hm rfl
   · exact ((Kept.refl [r] W).set r n _ (.inl (by simp))).alloc _
   rintro V ⟨b, eb, TV, hkV⟩
   have ⟨L0', C0', F0'⟩ := hkV.blk (by simpa using hb0r) B0
   have ⟨L1', C1', F1'⟩ := hkV.blk (by simpa using hb1r) B1
   have hcV := TV.cell hn
   rw [if_pos rfl] at hcV
   have hrV : r < V.heap.size := TV.rtag.lt
   have MB := TV.is n b hn (if_pos rfl)
   have HTV := Lib.hid TV
   have HMB := Lib.hid MB
   have HM := Lib.hid hm
   clear C0 F0 C1 F1 hcell hfr hm TV MB
   obtain ⟨w9, hrun, hmt, hk9⟩ := (HMB.out.same (w' := V.drew) rfl).store Tryz.lawInt Tryz.mapIV hc HK.out (updV v n (.int .i64 a) (.agg #[.int .i64 y0, .int .i64 y1]) n) (updV_at _ _ _ _) (fun x hx => updV_key _ _ _ _ _ hx) (by intro h9; simp at h9; omega)
   refine wp_region_E 7 (fun w' => SX0 V w') (by kernel_rfl) (by (exact kp0)) (fun hHeld => ?_)
   refine WE_tk 0 ?_
   refine WE_tk 1 ?_
   refine WE_tk 2 ?_
   refine WE_tk 3 ?_
   refine WE_tk 4 ?_
   refine WE_tk 5 ?_
   refine WE_tk 6 ?_
   refine WE_last rfl (by kernel_rfl) (fun K hK => ?_)
   go_simp
   refine hK.out _ _ ?_
   clear hK K
   go_wp2_with fail
   go_end0
   replace hk9 : Kept [b] V w9 := ((Kept.refl [b] V).drew).next hk9 (fun y hy => .inl hy)
   have hT := HTV.out.stored hn (if_pos rfl) hk9 hmt
   refine ⟨_, rfl, hT, ?_, fun i hi => if_neg hi, .inr ⟨HM.out, b, if_pos rfl, ?_⟩⟩
   · rw [HM.out]
     have h1 : Kept [r] w V := Kept.next (keptWide hkW (by simp)) hkV (by simp)
     exact h1.next hk9 (by intro y hy; right; simp at hy; subst hy; have := hkW.size; omega)
   · have := hkW.size; omega
 | some b =>
   rw [hm] at hcell
   have HMB := Lib.hid (HTW.out.is n b hn hm)
   have HM := Lib.hid hm
   clear hm
   go_upto_region 3 with fail
   obtain ⟨w9, hrun, hmt, hk9⟩ := (HMB.out.same (w' := W.drew) rfl).store Tryz.lawInt Tryz.mapIV hc HK.out (updV v n (.int .i64 a) (.agg #[.int .i64 y0, .int .i64 y1]) n) (updV_at _ _ _ _) (fun x hx => updV_key _ _ _ _ _ hx) (by intro h9; simp at h9; omega)
   refine wp_region_E 7 (fun w' => SX0 W w') (by kernel_rfl) (by (exact kp0)) (fun hHeld => ?_)
   refine WE_tk 0 ?_
   refine WE_tk 1 ?_
   refine WE_tk 2 ?_
   refine WE_tk 3 ?_
   refine WE_tk 4 ?_
   refine WE_tk 5 ?_
   refine WE_tk 6 ?_
   refine WE_last rfl (by kernel_rfl) (fun K hK => ?_)
   go_simp
   refine hK.out _ _ ?_
   clear hK K
   go_wp2_with fail
   go_end0
   replace hk9 : Kept [b] W w9 := ((Kept.refl [b] W).drew).next hk9 (fun y hy => .inl hy)
   have hT := HTW.out.stored hn HM.out hk9 hmt
   refine ⟨_, rfl, hT, ?_, fun i hi => rfl, .inl rfl⟩
   rw [HM.out]
   exact Kept.next (X := r :: [b]) (keptWide hkW (by simp)) hk9 (by simp)
end Go.Proofs.YtincpmdldpakkaaGreatDoor
namespace Go.Df
open Go.RowKit
section
variable {P : Program} (w : World)
theorem run_append_far (base : Nat) (t ty e : TypeId) (i : TypeInfo) (z : Value) (size bytes : Nat) (ht : P.underlying t = some (.slice e)) (hi : P.info? e = some i) (hz : i.zero = some z)
   (hsize : i.size = size) (hby : i.bytes = bytes) (hzs : z.cells.size = size) (hsz : 0 < size)
   (v : Value) (n : Nat) (xs : List Value) (hown : w.ownsRow base e size v n xs)
   (b m c : Nat) (news : List Value) (hr : Rd w size (some ⟨b, 0, none⟩) m news) (h1 : ∀ u ∈ news, u.oneCell' = true)
   (N : Nat) (hN : n + m = N) (ys : List Value) (hys : xs ++ news = ys) (h63 : N ≤ maxLen) (hbytes : N * bytes ≤ 140737488355328) (hbase : base ≤ w.heap.size) :
   ∃ A' c' w', (Builtin.append_ #[t, t] ty #[v, .slice (some ⟨b, 0, none⟩) m c]).run P w = .ok (.slice A' N c') w' ∧ w'.ownsRow base e size (.slice A' N c') N ys ∧ Kept v.ownBlock.toList w w' ∧
     (∀ g, (Value.slice A' N c').ownBlock = some g → v.ownBlock = some g ∨ (g = w.heap.size ∧ Kept [] w w')) := by
 obtain ⟨A', c', w', hrun, h2, h3, h4⟩ := run_append_rd (P := P) w base t ty e i z size bytes ht hi hz hsize hby hzs hsz v n xs hown (some ⟨b, 0, none⟩) m c news hr (fun h => by cases h) h1 N hN ys hys h63 hbytes hbase
 refine ⟨A', c', w', hrun, h2, h3, fun g hg => ?_⟩
 rcases h4 g hg with h5 | h5
 · exact .inl h5
 · right
   refine ⟨h5, ?_⟩
   rcases hown.2 with ⟨rfl, _⟩ | ⟨g0, cap, cur, rfl, hbg, hg0, hnc, hcm, hcs, htake⟩
   · simpa [Value.ownBlock] using h3
   · have hlt : g0 < w.heap.size := (Array.getElem?_eq_some_iff.1 hg0).1
     have hnl : news.length = m * size := hr.1
     by_cases hroom : n + m ≤ cap
     · have hfit : n * i.size + news.length ≤ cur.size := by rw [hnl, hcs, hsize, ← Nat.add_mul]; exact Nat.mul_le_mul_right _ hroom
       have hr2 := run_append_room (P := P) w t ty e i ht hi g0 n cap cur hg0 ⟨b, 0, none⟩ m c news (by rw [hnl, hsize]) hr.news h1 hroom hfit
       rw [hrun] at hr2
       injection hr2 with e1 _
       rw [e1] at hg
       have : g0 = g := by simpa [Value.ownBlock] using hg
       omega
     · have holds : ∀ j u, xs[j]? = some u → w.cell? ((⟨g0, 0, none⟩ : Addr).add j) = some u := hown.cells (g := g0) rfl
       have hr2 := run_append_grow (P := P) w t ty e i z ht hi hz ⟨g0, 0, none⟩ n cap xs (by rw [hsize]; exact hown.1) holds ⟨b, 0, none⟩ m c news (by rw [hnl, hsize]) hr.news (by omega) (by unfold maxLen at h63; omega) (growslice_fits (by omega) (by rw [hN, hby]; exact hbytes))
       rw [hrun] at hr2
       injection hr2 with _ e2
       rw [e2]
       exact ((Kept.refl [] w).drew).alloc _
theorem step_append_far {ops : Array Oper} {o : Oper} {a : Act} {K : Act → World → Prop} {Q : Exit → Act → World → Prop} {E : Prop} (hgd : o.guard = none) (s x : Operand) (t : TypeId)
   (ho : o.op = .call { callee := .builtin .append, args := #[s, x], argTypes := #[t, t] })
   (base : Nat) (e : TypeId) (i : TypeInfo) (z : Value) (size bytes : Nat) (ht : P.underlying t = some (.slice e)) (hi : P.info? e = some i) (hz : i.zero = some z)
   (hsize : i.size = size) (hby : i.bytes = bytes) (hzs : z.cells.size = size) (hsz : 0 < size)
   (v : Value) (n : Nat) (xs : List Value) (hs : a.eval s = v) (hown : w.ownsRow base e size v n xs)
   (b m c : Nat) (news : List Value) (hx : a.eval x = .slice (some ⟨b, 0, none⟩) m c) (hr : Rd w size (some ⟨b, 0, none⟩) m news) (h1 : ∀ u ∈ news, u.oneCell' = true)
   (N : Nat) (hN : n + m = N) (ys : List Value) (hys : xs ++ news = ys) (h63 : N ≤ maxLen) (hbytes : N * bytes ≤ 140737488355328) (hbase : base ≤ w.heap.size)
   (h : ∀ A' c' w', w'.ownsRow base e size (.slice A' N c') N ys → Kept v.ownBlock.toList w w' → (∀ g, (Value.slice A' N c').ownBlock = some g → v.ownBlock = some g ∨ (g = w.heap.size ∧ Kept [] w w')) → K (a.put o.dst (.slice A' N c')) w') :
   if Region.wanted o (yielded ops a.tmps) = true then Oper.wp P o a w K Q else E := by
 have hw : Region.wanted o (yielded ops a.tmps) = true := by simp [Region.wanted, hgd]
 rw [if_pos hw]
 obtain ⟨A', c', w', hr, h2, h3, h4⟩ := run_append_far (P := P) w base t o.type e i z size bytes ht hi hz hsize hby hzs hsz v n xs hown b m c news hr h1 N hN ys hys h63 hbytes hbase
 unfold Oper.wp execOp
 simp only [ho, resolve, invoke, builtin, Sem.run_bind, Sem.run_pure, Result.andThen_ok, List.map_toArray, List.map_cons, List.map_nil, hs, hx, hr]
 exact h A' c' w' h2 h3 h4
end
end Go.Df
