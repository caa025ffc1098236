/- The contracts of the program's folder and of its closure. -/
import Derived.Test.YtmjebjjhfoncfaaDoorEj
namespace Go.Df
open Go.RowKit
theorem wpList_make2 {P : Program} (w : World) {ops : Array Oper} {rest : List Oper} {o : Oper} {a : Act} {Q : Exit → Act → World → Prop} (hg : o.guard = none) (l c : Operand) (t : TypeId) (hop : o.op = Op.makeSlice t l c)
    (e : TypeId) (i : TypeInfo) (z : Value) (size bytes : Nat) (ht : P.underlying t = some (.slice e)) (hi : P.info? e = some i) (hz : i.zero = some z) (hsize : i.size = size) (hby : i.bytes = bytes) (n : Nat)
    (hl : a.eval l = .int .i64 (n : Int)) (hc : a.eval c = .int .i64 (n : Int)) (hbytes : bytes * n ≤ 281474976710656) (h63 : n ≤ 9223372036854775807) (M : Array Value) (hM : madeCells z.cells (n * size) = M)
    (hK : wpList P ops Q rest (a.put o.dst (.slice (some ⟨w.heap.size, 0, none⟩) n n)) (w.alloc (.cells M e))) : wpList P ops Q (o :: rest) a w := by
  subst hM hsize hby
  refine wpList_plain hg fun K hK' => ?_
  have hrun := run_make (P := P) w t e i z ht hi hz .i64 .i64 (n : Int) (n : Int) (by omega) (Int.le_refl _) (by rw [← Int.natCast_mul]; omega) (by omega)
  simp only [Int.toNat_natCast] at hrun
  unfold Oper.wp
  simp [execOp, hop, hl, hc, hrun, Result.andThen]
  exact hK' _ _ hK
theorem made_zero {m j : Nat} {v : Value} (h : j < m) : (madeCells #[v, v] m)[j]? = some v := by
  have h2 : j % 2 = 0 ∨ j % 2 = 1 := by omega
  rcases h2 with h2 | h2 <;> simp [madeCells, h, h2]
end Go.Df
namespace Go.Proofs.YtmjebjjhfoncfaaDoor
open Go.RowKit Go.Df
attribute [local go_sem ↓] Go.wp_at_zero Go.wp_at_succ

set_option maxRecDepth 100000 in
set_option maxHeartbeats 1000000 in
theorem folder_any (F : Nat) (w : World) (h2 : F ≤ 1024) :
    Calls Tryd.prog 34 #[.int .i64 F] w fun e w' => ∃ g hb, e = .returned (.tuple #[.slice (some ⟨g, 0, none⟩) F F, .func (.func 56) #[] #[.pointer (some ⟨hb, 0, none⟩)]]) ∧
      Vals w' g F (fun _ => ⟨0, 0⟩) ∧ Blk w' hb [.slice (some ⟨g, 0, none⟩) F F] ∧ w.heap.size ≤ g ∧ w.heap.size ≤ hb ∧ hb ≠ g ∧ Below w.heap.size w w' := by
  obtain ⟨i0, hi, hz0, hz1, hz2⟩ := info_parts val_info
  obtain ⟨M, hM⟩ : ∃ M, madeCells (Value.agg #[.int .i64 0, .int .i64 0]).cells (F * 2) = M := ⟨_, rfl⟩
  have HM := Lib.hid hM
  have HMc : Hid (∀ j, j < F * 2 → M[j]? = some (.int .i64 0)) := fun j hj => by rw [← hM]; exact made_zero hj
  clear hM
  go_enter Tryd.func34, Tryd.ntmps34
  go_wp2_with (at_make; refine wpList_make2 _ rfl _ _ 32 rfl 52 i0 (.agg #[.int .i64 0, .int .i64 0]) 2 16 Tryd.underlying32 hi hz0 hz1 hz2 F rfl rfl (by omega) (by omega) M HM.out ?_)
  go_ret2
  refine ⟨w.heap.size, w.heap.size + 1, rfl, ?_, ?_, Nat.le_refl _, by omega, by omega, ?_⟩
  · have hk : Kept [] (w.alloc (.cells M 52)) _ := (Kept.refl [] (w.alloc (.cells M 52))).alloc (.cells #[.slice (some ⟨w.heap.size, 0, none⟩) F F] 32)
    refine Vals.kept ?_ hk (by simp)
    refine ⟨by simp, fun i hi => ?_, fun i hi => ?_, fun i => World.frozen?_alloc_new w M _ i⟩
    · rw [World.cell?_alloc_new]; exact HMc.out _ (by omega)
    · rw [World.cell?_alloc_new]; exact HMc.out _ (by omega)
  · exact Blk.new _ _ _ _ (by simp)
  · exact (((Kept.refl [] w).alloc _).alloc _).toBelow

set_option maxRecDepth 100000 in
set_option maxHeartbeats 4000000 in
theorem fold_any (g hb F c x : Nat) (k n : Int) (f : Nat → Xf.V) (w : World) (hv : Vals w g F f) (hB : Blk w hb [.slice (some ⟨g, 0, none⟩) F c]) (hx : x < F) :
    Calls Tryd.prog 56 #[.int .i64 x, .agg #[.int .i64 k, .int .i64 n], .pointer (some ⟨hb, 0, none⟩)] w fun e w' => e = .returned (.tuple #[]) ∧
      Vals w' g F (fun i => if i = x then Xf.meetV (f x) ⟨k, n⟩ else f i) ∧ Kept [g] w w' := by
  have HV := Lib.hid hv
  have HB := Lib.hid hB
  have hgl := hv.lt
  have hbl := hB.1
  clear hv hB
  go_enter Tryd.func56, Tryd.ntmps56
  go_upto_region 1 with fail
  refine wp_named (fun W => ∃ b0, w.heap.size = b0 ∧ Blk W b0 [.int .i64 k, .int .i64 n] ∧ Below w.heap.size w W) ⟨_, rfl, ?_, ?_⟩ ?_
  · exact Blk.new _ _ _ _ (by first | rfl | simp)
  · go_grown
  rintro W ⟨b0, e0, B0, hB⟩
  rw [e0]
  have G0 : w.heap.size ≤ b0 := by omega
  clear e0
  have ⟨L0, C0, F0⟩ := B0
  have hkW : Kept [] w W := (Kept.refl _ _).call hB
  have VW := Lib.hid (HV.out.kept hkW (by simp))
  have ⟨LB, CB, FB⟩ := hkW.blk (by simp) HB.out
  have v0 := VW.out.c0 x hx
  have v1 := VW.out.c1 x hx
  obtain ⟨u, hu⟩ : ∃ u, f x = u := ⟨_, rfl⟩
  rw [hu] at v0 v1
  obtain ⟨uk, un⟩ := u
  have f0 := VW.out.fz
  have hgr := VW.out.lt
  have hx1 : (x : Int) < (F : Int) := by omega
  have HU := Lib.hid hu
  clear hu
  refine wp_region_E 9 (fun w' => SX0 W w') (by kernel_rfl) (by (repeat' first | (with_reducible assumption) | (with_reducible exact SX0.init _) | (with_reducible exact SX0.refl _) | (with_reducible refine SX0.alloc ?_ _) | (with_reducible refine SX0.call ?_ (by assumption)) | (with_reducible refine SX0.set ?_ _ _ _ ?_) | (with_reducible refine SX0.drew ?_) | (simp; done) | omega | (simp; omega))) (fun hHeld => ?_)
  refine WE_take 0 (v := ?_) rfl (by kernel_rfl) (fun _ _ _ h => h) (Or.inl ⟨by rfl, ?_⟩) (by assumption) ?_; rotate_left; (· intro w9 hSw; (try dsimp only at hSw); go_simp; try with_reducible rfl); (try simp only [Act.put, List.setIfInBounds_toArray, List.set_cons_zero, List.set_cons_succ])
  refine WE_take 1 (v := ?_) rfl (by kernel_rfl) (fun _ _ _ h => h) (Or.inl ⟨by rfl, ?_⟩) (by assumption) ?_; rotate_left; (· intro w9 hSw; (try dsimp only at hSw); go_simp; try with_reducible rfl); (try simp only [Act.put, List.setIfInBounds_toArray, List.set_cons_zero, List.set_cons_succ])
  refine WE_take 2 (v := ?_) rfl (by kernel_rfl) (fun _ _ _ h => h) (Or.inl ⟨by rfl, ?_⟩) (by assumption) ?_; rotate_left; (· intro w9 hSw; (try dsimp only at hSw); go_simp; try with_reducible rfl); (try simp only [Act.put, List.setIfInBounds_toArray, List.set_cons_zero, List.set_cons_succ])
  refine WE_take 3 (v := ?_) rfl (by kernel_rfl) (fun _ _ _ h => h) (Or.inl ⟨by rfl, ?_⟩) (by assumption) ?_; rotate_left; (· intro w9 hSw; (try dsimp only at hSw); go_simp; try with_reducible rfl); (try simp only [Act.put, List.setIfInBounds_toArray, List.set_cons_zero, List.set_cons_succ])
  refine WE_take 4 (v := ?_) rfl (by kernel_rfl) (fun _ _ _ h => h) (Or.inl ⟨by rfl, ?_⟩) (by assumption) ?_; rotate_left; (· intro w9 hSw; (try dsimp only at hSw); go_simp; try with_reducible rfl); (try simp only [Act.put, List.setIfInBounds_toArray, List.set_cons_zero, List.set_cons_succ])
  refine WE_take 5 (v := ?_) rfl (by kernel_rfl) (fun _ _ _ h => h) (Or.inl ⟨by rfl, ?_⟩) (by assumption) ?_; rotate_left; (· intro w9 hSw; (try dsimp only at hSw); go_simp; try with_reducible rfl); (try simp only [Act.put, List.setIfInBounds_toArray, List.set_cons_zero, List.set_cons_succ])
  refine WE_take 6 (v := ?_) rfl (by kernel_rfl) (fun _ _ _ h => h) (Or.inl ⟨by rfl, ?_⟩) (by assumption) ?_; rotate_left; (· intro w9 hSw; (try dsimp only at hSw); go_simp; try with_reducible rfl); (try simp only [Act.put, List.setIfInBounds_toArray, List.set_cons_zero, List.set_cons_succ])
  refine WE_step 7 rfl (by kernel_rfl) (fun K hK => ?_)
  go_simp
  (go_at_call 57; refine (meetV_any uk un k n _).mono ?_; rintro e w5 ⟨rfl, hb5⟩)
  (try go_wp2_with fail)
  refine hK.out _ _ ?_ (fun hHeld => ?_)
  · (repeat' first | (with_reducible assumption) | (with_reducible exact SX0.init _) | (with_reducible exact SX0.refl _) | (with_reducible refine SX0.alloc ?_ _) | (with_reducible refine SX0.call ?_ (by assumption)) | (with_reducible refine SX0.set ?_ _ _ _ ?_) | (with_reducible refine SX0.drew ?_) | (simp; done) | omega | (simp; omega))
  clear hK K
  try simp only [Act.put, List.setIfInBounds_toArray, List.set_cons_zero, List.set_cons_succ]
  refine WE_take 8 (v := ?_) rfl (by kernel_rfl) (fun _ _ _ h => h) (Or.inl ⟨by rfl, ?_⟩) (by assumption) ?_; rotate_left; (· intro w9 hSw; (try dsimp only at hSw); go_simp; try with_reducible rfl); (try simp only [Act.put, List.setIfInBounds_toArray, List.set_cons_zero, List.set_cons_succ])
  refine WE_last rfl (by kernel_rfl) (fun K hK => ?_)
  go_simp
  refine hK.out _ _ ?_
  clear hK K
  have hk5 : Kept [] W w5 := hHeld.1
  have V5 := Lib.hid (VW.out.kept hk5 (by simp))
  go_wp2_with fail
  go_end0
  refine ⟨rfl, ?_, ((((Kept.refl [g] w).next hkW (by simp)).next hk5 (by simp)).set g _ _ (.inl (by simp))).set g _ _ (.inl (by simp))⟩
  rw [HU.out]
  exact V5.out.put x _ hx
end Go.Proofs.YtmjebjjhfoncfaaDoor
