/- The contract of vpath.paths: the iterator, a closure over four boxes. -/
import Derived.Test.YtmbihjlflcjlnaaVc
import Derived.Test.YtmbihjlflcjlnaaMc
namespace Go.Proofs.Ytmbihjlflcjlnaa
open Go.RowKit Go.Df
attribute [local go_sem ↓] Go.wp_at_zero Go.wp_at_succ

set_option maxRecDepth 100000 in
set_option maxHeartbeats 1000000 in
theorem paths_it (A1 A2 : Option Addr) (n1 c1 n2 c2 : Nat) (mn fr most count : Int) (w : World) :
    Calls Try.prog 20 #[.agg #[.slice A1 n1 c1, .slice A2 n2 c2, .int .i64 mn], .int .i64 fr, .int .i64 most, .int .i64 count] w fun e w' =>
      ∃ b0 b1 b2 b3 : Nat, e = .returned (.func (.func 26) #[] #[.pointer (some ⟨b0, 0, none⟩), .pointer (some ⟨b1, 0, none⟩), .pointer (some ⟨b2, 0, none⟩), .pointer (some ⟨b3, 0, none⟩)]) ∧
        Blk w' b0 [.slice A1 n1 c1, .slice A2 n2 c2, .int .i64 mn] ∧ Blk w' b1 [.int .i64 fr] ∧ Blk w' b2 [.int .i64 most] ∧ Blk w' b3 [.int .i64 count] ∧ w.heap.size ≤ b0 ∧ w.heap.size ≤ b1 ∧ w.heap.size ≤ b2 ∧ w.heap.size ≤ b3 ∧ Below w.heap.size w w' := by
  go_enter Try.func20, Try.ntmps20
  go_upto_region 1 with fail
  refine wp_named (fun W => ∃ b0 b1 b2 b3, w.heap.size = b0 ∧ w.heap.size + 1 = b1 ∧ w.heap.size + 1 + 1 = b2 ∧ w.heap.size + 1 + 1 + 1 = b3 ∧ Blk W b0 [.slice A1 n1 c1, .slice A2 n2 c2, .int .i64 mn] ∧ Blk W b1 [.int .i64 fr] ∧ Blk W b2 [.int .i64 most] ∧ Blk W b3 [.int .i64 count] ∧ Below w.heap.size w W) ⟨_, _, _, _, rfl, rfl, rfl, rfl, ?_, ?_, ?_, ?_, ?_⟩ ?_
  · exact (((Blk.new _ _ _ _ (by first | rfl | simp)).alloc _).alloc _).alloc _
  · exact ((Blk.new _ _ _ _ (by first | rfl | simp)).alloc _).alloc _
  · exact (Blk.new _ _ _ _ (by first | rfl | simp)).alloc _
  · exact Blk.new _ _ _ _ (by first | rfl | simp)
  · go_grown
  rintro W ⟨b0, b1, b2, b3, e0, e1, e2, e3, B0, B1, B2, B3, hB⟩
  rw [e3, e2, e1, e0]
  have G0 : w.heap.size ≤ b0 := by omega
  have n01 : b0 ≠ b1 := by omega
  have n02 : b0 ≠ b2 := by omega
  have n03 : b0 ≠ b3 := by omega
  have G1 : w.heap.size ≤ b1 := by omega
  have n10 : b1 ≠ b0 := by omega
  have n12 : b1 ≠ b2 := by omega
  have n13 : b1 ≠ b3 := by omega
  have G2 : w.heap.size ≤ b2 := by omega
  have n20 : b2 ≠ b0 := by omega
  have n21 : b2 ≠ b1 := by omega
  have n23 : b2 ≠ b3 := by omega
  have G3 : w.heap.size ≤ b3 := by omega
  have n30 : b3 ≠ b0 := by omega
  have n31 : b3 ≠ b1 := by omega
  have n32 : b3 ≠ b2 := by omega
  clear e0 e1 e2 e3
  have ⟨L0, C0, F0⟩ := B0
  have ⟨L1, C1, F1⟩ := B1
  have ⟨L2, C2, F2⟩ := B2
  have ⟨L3, C3, F3⟩ := B3
  go_wp2_with fail
  go_ret
  exact ⟨b0, b1, b2, b3, rfl, B0, B1, B2, B3, G0, G1, G2, G3, hB⟩

theorem tag_alloc {w : World} {b : Nat} {t : TypeId} (h : Tag w b t) (o : Obj) : Tag (w.alloc o) b t := h.same (((Kept.refl [] w).alloc o).block b h.lt (by simp))
set_option maxRecDepth 100000 in
set_option maxHeartbeats 1000000 in
/-- .. and the types of the boxes. -/
theorem paths_itT (A1 A2 : Option Addr) (n1 c1 n2 c2 : Nat) (mn fr most count : Int) (w : World) :
    Calls Try.prog 20 #[.agg #[.slice A1 n1 c1, .slice A2 n2 c2, .int .i64 mn], .int .i64 fr, .int .i64 most, .int .i64 count] w fun e w' =>
      ∃ b0 b1 b2 b3 : Nat, e = .returned (.func (.func 26) #[] #[.pointer (some ⟨b0, 0, none⟩), .pointer (some ⟨b1, 0, none⟩), .pointer (some ⟨b2, 0, none⟩), .pointer (some ⟨b3, 0, none⟩)]) ∧
        Blk w' b0 [.slice A1 n1 c1, .slice A2 n2 c2, .int .i64 mn] ∧ Blk w' b1 [.int .i64 fr] ∧ Blk w' b2 [.int .i64 most] ∧ Blk w' b3 [.int .i64 count] ∧ Tag w' b0 25 ∧ Tag w' b1 3 ∧ Tag w' b2 3 ∧ Tag w' b3 3 ∧ Below w.heap.size w w' := by
  go_enter Try.func20, Try.ntmps20
  go_wp2_with fail
  go_ret
  refine ⟨w.heap.size, w.heap.size + 1, w.heap.size + 2, w.heap.size + 3, rfl, (((Blk.new _ _ _ _ rfl).alloc _).alloc _).alloc _, ((Blk.new _ _ _ _ (by simp)).alloc _).alloc _, (Blk.new _ _ _ _ (by simp)).alloc _, Blk.new _ _ _ _ (by simp), tag_alloc (tag_alloc (tag_alloc (Tag.new _ _ _ _ rfl) _) _) _, tag_alloc (tag_alloc (Tag.new _ _ _ _ (by simp)) _) _, tag_alloc (Tag.new _ _ _ _ (by simp)) _, Tag.new _ _ _ _ (by simp), ((((Kept.refl [] w).alloc _).alloc _).alloc _).alloc _ |>.toBelow⟩
end Go.Proofs.Ytmbihjlflcjlnaa
