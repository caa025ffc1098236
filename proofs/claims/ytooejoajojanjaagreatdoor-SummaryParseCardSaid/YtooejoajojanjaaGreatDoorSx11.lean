/- Texts: Rg Rf. -/
import Derived.Test.YtooejoajojanjaaGreatDoorSx09
import Derived.Test.YtooejoajojanjaaGreatDoorSx10
import Derived.Test.YtooejoajojanjaaGreatDoorSx04
import Derived.Test.YtooejoajojanjaaGreatDoorSx03
namespace Go.Df.If
open Go.RowKit Go.Df
/-- Two lists of facts come back. -/
def GetAp (w : World) (a b : List Int) (e : Ending) (w' : World) : Prop := ∃ A1 n1 c1 A2 n2 c2, e = .returned (.tuple #[.slice A1 n1 c1, .slice A2 n2 c2]) ∧ Ints w' A1 n1 a ∧ Ints w' A2 n2 b ∧ Below w.heap.size w w'
end Go.Df.If
namespace Go.Proofs.YtooejoajojanjaaGreatDoor
open Go.RowKit Go.Df Go.Df.If
attribute [local go_sem ↓] Go.wp_at_zero Go.wp_at_succ
set_option maxRecDepth 100000 in
set_option maxHeartbeats 4000000 in
theorem pap_any (E T B : Option Addr) (ne ce nt ct m d : Nat) (uf : Int) (x y : List Pr) (l : List Int) (w : World) (hx : Prs w E ne x) (hy : Prs w T nt y) (hB : Ints w B m l) (hne : ne ≤ 10000) (hnt : nt ≤ 10000) (hm : m ≤ 100000) (hwl : ∀ x ∈ l, (Lit.int .i64 x).wf = true) (hwx : ∀ q ∈ x, (Lit.int .i64 q.i).wf = true) (hwy : ∀ q ∈ y, (Lit.int .i64 q.i).wf = true) :
    Calls Tryz.prog 14 #[.agg #[.int .i64 uf, .slice E ne ce, .slice T nt ct], .slice B m d] w (GetAp w (applyF x l) (applyF y l)) := by
  have HX := Lib.hid hx
  have HY := Lib.hid hy
  have HB := Lib.hid hB
  clear hx hy hB
  go_enter Tryz.func14, Tryz.ntmps14
  go_upto_region 1 with fail
  refine wp_named (fun W => ∃ b0, w.heap.size = b0 ∧ Blk W b0 [.int .i64 uf, .slice E ne ce, .slice T nt ct] ∧ Below w.heap.size w W) ⟨_, rfl, ?_, ?_⟩ ?_
  · exact Blk.new _ _ _ _ (by first | rfl | simp)
  · go_grown
  rintro W ⟨b0, e0, B0, hB⟩
  rw [e0]
  have G0 : w.heap.size ≤ b0 := by omega
  clear e0
  have ⟨L0, C0, F0⟩ := B0
  have hkW : Kept [] w W := (Kept.refl _ _).call hB
  have HKW := Lib.hid hkW
  clear hkW
  go_upto_region 1 with fail
  -- MARK
  refine wp_region_E 9 (fun w' => SX0 W w') (by kernel_rfl) (by (repeat' first | (with_reducible assumption) | (with_reducible exact SX0.init _) | (with_reducible exact SX0.refl _) | (with_reducible refine SX0.alloc ?_ _) | (with_reducible refine SX0.call ?_ (by assumption)) | (with_reducible refine SX0.set ?_ _ _ _ ?_) | (with_reducible refine SX0.drew ?_) | (simp; done) | omega | (simp; omega))) (fun hHeld => ?_)
  refine WE_take 0 (v := ?_) rfl (by kernel_rfl) (fun _ _ _ h => h) (Or.inl ⟨by rfl, ?_⟩) (by assumption) ?_; rotate_left; (· intro w9 hSw; (try dsimp only at hSw); go_simp; try with_reducible rfl); (try simp only [Act.put, List.setIfInBounds_toArray, List.set_cons_zero, List.set_cons_succ])
  refine WE_take 1 (v := ?_) rfl (by kernel_rfl) (fun _ _ _ h => h) (Or.inl ⟨by rfl, ?_⟩) (by assumption) ?_; rotate_left; (· intro w9 hSw; (try dsimp only at hSw); go_simp; try with_reducible rfl); (try simp only [Act.put, List.setIfInBounds_toArray, List.set_cons_zero, List.set_cons_succ])
  refine WE_take 2 (v := ?_) rfl (by kernel_rfl) (fun _ _ _ h => h) (Or.inl ⟨by rfl, ?_⟩) (by assumption) ?_; rotate_left; (· intro w9 hSw; (try dsimp only at hSw); go_simp; try with_reducible rfl); (try simp only [Act.put, List.setIfInBounds_toArray, List.set_cons_zero, List.set_cons_succ])
  refine WE_take 4 (v := ?_) rfl (by kernel_rfl) (fun _ _ _ h => h) (Or.inl ⟨by rfl, ?_⟩) (by assumption) ?_; rotate_left; (· intro w9 hSw; (try dsimp only at hSw); go_simp; try with_reducible rfl); (try simp only [Act.put, List.setIfInBounds_toArray, List.set_cons_zero, List.set_cons_succ])
  refine WE_take 5 (v := ?_) rfl (by kernel_rfl) (fun _ _ _ h => h) (Or.inl ⟨by rfl, ?_⟩) (by assumption) ?_; rotate_left; (· intro w9 hSw; (try dsimp only at hSw); go_simp; try with_reducible rfl); (try simp only [Act.put, List.setIfInBounds_toArray, List.set_cons_zero, List.set_cons_succ])
  refine WE_take 6 (v := ?_) rfl (by kernel_rfl) (fun _ _ _ h => h) (Or.inl ⟨by rfl, ?_⟩) (by assumption) ?_; rotate_left; (· intro w9 hSw; (try dsimp only at hSw); go_simp; try with_reducible rfl); (try simp only [Act.put, List.setIfInBounds_toArray, List.set_cons_zero, List.set_cons_succ])
  refine WE_step 3 rfl (by kernel_rfl) (fun K hK => ?_)
  go_simp
  (first | (go_at_call 37; (with_reducible refine (apply_any E B ne ce m d x l _ (HX.out.later (keptTrans HKW.out hHeld.1).toBelow) (HB.out.kept (keptTrans HKW.out hHeld.1)) hne hm hwl hwx).mono ?_); rintro e w3 ⟨A3, n3, c3, rfl, hi3, hc3, hb3⟩; have HI3 := Lib.hid hi3; clear hi3) | (go_at_call 37; (with_reducible refine (apply_any T B nt ct m d y l _ (HY.out.later (keptTrans HKW.out hHeld.1).toBelow) (HB.out.kept (keptTrans HKW.out hHeld.1)) hnt hm hwl hwy).mono ?_); rintro e w4 ⟨A4, n4, c4, rfl, hi4, hc4, hb4⟩; have HI4 := Lib.hid hi4; have HB4 := Lib.hid hb4; clear hi4))
  (try go_wp2_with fail)
  refine hK.out _ _ ?_ (fun hHeld => ?_)
  · (repeat' first | (with_reducible assumption) | (with_reducible exact SX0.init _) | (with_reducible exact SX0.refl _) | (with_reducible refine SX0.alloc ?_ _) | (with_reducible refine SX0.call ?_ (by assumption)) | (with_reducible refine SX0.set ?_ _ _ _ ?_) | (with_reducible refine SX0.drew ?_) | (simp; done) | omega | (simp; omega))
  clear hK K
  try simp only [Act.put, List.setIfInBounds_toArray, List.set_cons_zero, List.set_cons_succ]
  refine WE_step 7 rfl (by kernel_rfl) (fun K hK => ?_)
  go_simp
  (first | (go_at_call 37; (with_reducible refine (apply_any E B ne ce m d x l _ (HX.out.later (keptTrans HKW.out hHeld.1).toBelow) (HB.out.kept (keptTrans HKW.out hHeld.1)) hne hm hwl hwx).mono ?_); rintro e w3 ⟨A3, n3, c3, rfl, hi3, hc3, hb3⟩; have HI3 := Lib.hid hi3; clear hi3) | (go_at_call 37; (with_reducible refine (apply_any T B nt ct m d y l _ (HY.out.later (keptTrans HKW.out hHeld.1).toBelow) (HB.out.kept (keptTrans HKW.out hHeld.1)) hnt hm hwl hwy).mono ?_); rintro e w4 ⟨A4, n4, c4, rfl, hi4, hc4, hb4⟩; have HI4 := Lib.hid hi4; have HB4 := Lib.hid hb4; clear hi4))
  (try go_wp2_with fail)
  refine hK.out _ _ ?_ (fun hHeld => ?_)
  · (repeat' first | (with_reducible assumption) | (with_reducible exact SX0.init _) | (with_reducible exact SX0.refl _) | (with_reducible refine SX0.alloc ?_ _) | (with_reducible refine SX0.call ?_ (by assumption)) | (with_reducible refine SX0.set ?_ _ _ _ ?_) | (with_reducible refine SX0.drew ?_) | (simp; done) | omega | (simp; omega))
  clear hK K
  try simp only [Act.put, List.setIfInBounds_toArray, List.set_cons_zero, List.set_cons_succ]
  refine WE_take 8 (v := ?_) rfl (by kernel_rfl) (fun _ _ _ h => h) (Or.inl ⟨by rfl, ?_⟩) (by assumption) ?_; rotate_left; (· intro w9 hSw; (try dsimp only at hSw); go_simp; try with_reducible rfl); (try simp only [Act.put, List.setIfInBounds_toArray, List.set_cons_zero, List.set_cons_succ])
  refine WE_last rfl (by kernel_rfl) (fun K hK => ?_)
  go_simp
  refine hK.out _ _ ?_
  clear hK K
  have hk4 : Kept [] W w4 := hHeld.1
  go_wp2_with fail
  go_ret2
  exact ⟨A3, n3, c3, A4, n4, c4, rfl, HI3.out.later HB4.out, HI4.out, (keptTrans HKW.out hk4).toBelow⟩
set_option maxRecDepth 100000 in
set_option maxHeartbeats 4000000 in
theorem rap_any (E T B : Option Addr) (ne ce nt ct m d : Nat) (uf : Int) (x y : List Pr) (l : List Int) (w : World) (hx : Prs w E ne x) (hy : Prs w T nt y) (hB : Ints w B m l) (hne : ne ≤ 10000) (hnt : nt ≤ 10000) (hm : m ≤ 100000) :
    Calls Tryz.prog 15 #[.agg #[.int .i64 uf, .slice E ne ce, .slice T nt ct], .slice B m d] w (GetAp w (applyF x l) (applyF y l)) := by
  have HX := Lib.hid hx
  have HY := Lib.hid hy
  have HB := Lib.hid hB
  clear hx hy hB
  go_enter Tryz.func15, Tryz.ntmps15
  go_upto_region 1 with fail
  refine wp_named (fun W => ∃ b0, w.heap.size = b0 ∧ Blk W b0 [.int .i64 uf, .slice E ne ce, .slice T nt ct] ∧ Below w.heap.size w W) ⟨_, rfl, ?_, ?_⟩ ?_
  · exact Blk.new _ _ _ _ (by first | rfl | simp)
  · go_grown
  rintro W ⟨b0, e0, B0, hB⟩
  rw [e0]
  have G0 : w.heap.size ≤ b0 := by omega
  clear e0
  have ⟨L0, C0, F0⟩ := B0
  have hkW : Kept [] w W := (Kept.refl _ _).call hB
  have HKW := Lib.hid hkW
  clear hkW
  go_upto_region 1 with fail
  -- MARK
  refine wp_region_E 9 (fun w' => SX0 W w') (by kernel_rfl) (by (repeat' first | (with_reducible assumption) | (with_reducible exact SX0.init _) | (with_reducible exact SX0.refl _) | (with_reducible refine SX0.alloc ?_ _) | (with_reducible refine SX0.call ?_ (by assumption)) | (with_reducible refine SX0.set ?_ _ _ _ ?_) | (with_reducible refine SX0.drew ?_) | (simp; done) | omega | (simp; omega))) (fun hHeld => ?_)
  refine WE_take 0 (v := ?_) rfl (by kernel_rfl) (fun _ _ _ h => h) (Or.inl ⟨by rfl, ?_⟩) (by assumption) ?_; rotate_left; (· intro w9 hSw; (try dsimp only at hSw); go_simp; try with_reducible rfl); (try simp only [Act.put, List.setIfInBounds_toArray, List.set_cons_zero, List.set_cons_succ])
  refine WE_take 1 (v := ?_) rfl (by kernel_rfl) (fun _ _ _ h => h) (Or.inl ⟨by rfl, ?_⟩) (by assumption) ?_; rotate_left; (· intro w9 hSw; (try dsimp only at hSw); go_simp; try with_reducible rfl); (try simp only [Act.put, List.setIfInBounds_toArray, List.set_cons_zero, List.set_cons_succ])
  refine WE_take 2 (v := ?_) rfl (by kernel_rfl) (fun _ _ _ h => h) (Or.inl ⟨by rfl, ?_⟩) (by assumption) ?_; rotate_left; (· intro w9 hSw; (try dsimp only at hSw); go_simp; try with_reducible rfl); (try simp only [Act.put, List.setIfInBounds_toArray, List.set_cons_zero, List.set_cons_succ])
  refine WE_take 4 (v := ?_) rfl (by kernel_rfl) (fun _ _ _ h => h) (Or.inl ⟨by rfl, ?_⟩) (by assumption) ?_; rotate_left; (· intro w9 hSw; (try dsimp only at hSw); go_simp; try with_reducible rfl); (try simp only [Act.put, List.setIfInBounds_toArray, List.set_cons_zero, List.set_cons_succ])
  refine WE_take 5 (v := ?_) rfl (by kernel_rfl) (fun _ _ _ h => h) (Or.inl ⟨by rfl, ?_⟩) (by assumption) ?_; rotate_left; (· intro w9 hSw; (try dsimp only at hSw); go_simp; try with_reducible rfl); (try simp only [Act.put, List.setIfInBounds_toArray, List.set_cons_zero, List.set_cons_succ])
  refine WE_take 6 (v := ?_) rfl (by kernel_rfl) (fun _ _ _ h => h) (Or.inl ⟨by rfl, ?_⟩) (by assumption) ?_; rotate_left; (· intro w9 hSw; (try dsimp only at hSw); go_simp; try with_reducible rfl); (try simp only [Act.put, List.setIfInBounds_toArray, List.set_cons_zero, List.set_cons_succ])
  refine WE_step 3 rfl (by kernel_rfl) (fun K hK => ?_)
  go_simp
  (first | (go_at_call 38; (with_reducible refine (rapply_any E B ne ce m d x l _ (HX.out.later (keptTrans HKW.out hHeld.1).toBelow) (HB.out.kept (keptTrans HKW.out hHeld.1)) hne hm).mono ?_); rintro e w3 ⟨A3, n3, c3, rfl, hi3, hc3, hb3⟩; have HI3 := Lib.hid hi3; clear hi3) | (go_at_call 38; (with_reducible refine (rapply_any T B nt ct m d y l _ (HY.out.later (keptTrans HKW.out hHeld.1).toBelow) (HB.out.kept (keptTrans HKW.out hHeld.1)) hnt hm).mono ?_); rintro e w4 ⟨A4, n4, c4, rfl, hi4, hc4, hb4⟩; have HI4 := Lib.hid hi4; have HB4 := Lib.hid hb4; clear hi4))
  (try go_wp2_with fail)
  refine hK.out _ _ ?_ (fun hHeld => ?_)
  · (repeat' first | (with_reducible assumption) | (with_reducible exact SX0.init _) | (with_reducible exact SX0.refl _) | (with_reducible refine SX0.alloc ?_ _) | (with_reducible refine SX0.call ?_ (by assumption)) | (with_reducible refine SX0.set ?_ _ _ _ ?_) | (with_reducible refine SX0.drew ?_) | (simp; done) | omega | (simp; omega))
  clear hK K
  try simp only [Act.put, List.setIfInBounds_toArray, List.set_cons_zero, List.set_cons_succ]
  refine WE_step 7 rfl (by kernel_rfl) (fun K hK => ?_)
  go_simp
  (first | (go_at_call 38; (with_reducible refine (rapply_any E B ne ce m d x l _ (HX.out.later (keptTrans HKW.out hHeld.1).toBelow) (HB.out.kept (keptTrans HKW.out hHeld.1)) hne hm).mono ?_); rintro e w3 ⟨A3, n3, c3, rfl, hi3, hc3, hb3⟩; have HI3 := Lib.hid hi3; clear hi3) | (go_at_call 38; (with_reducible refine (rapply_any T B nt ct m d y l _ (HY.out.later (keptTrans HKW.out hHeld.1).toBelow) (HB.out.kept (keptTrans HKW.out hHeld.1)) hnt hm).mono ?_); rintro e w4 ⟨A4, n4, c4, rfl, hi4, hc4, hb4⟩; have HI4 := Lib.hid hi4; have HB4 := Lib.hid hb4; clear hi4))
  (try go_wp2_with fail)
  refine hK.out _ _ ?_ (fun hHeld => ?_)
  · (repeat' first | (with_reducible assumption) | (with_reducible exact SX0.init _) | (with_reducible exact SX0.refl _) | (with_reducible refine SX0.alloc ?_ _) | (with_reducible refine SX0.call ?_ (by assumption)) | (with_reducible refine SX0.set ?_ _ _ _ ?_) | (with_reducible refine SX0.drew ?_) | (simp; done) | omega | (simp; omega))
  clear hK K
  try simp only [Act.put, List.setIfInBounds_toArray, List.set_cons_zero, List.set_cons_succ]
  refine WE_take 8 (v := ?_) rfl (by kernel_rfl) (fun _ _ _ h => h) (Or.inl ⟨by rfl, ?_⟩) (by assumption) ?_; rotate_left; (· intro w9 hSw; (try dsimp only at hSw); go_simp; try with_reducible rfl); (try simp only [Act.put, List.setIfInBounds_toArray, List.set_cons_zero, List.set_cons_succ])
  refine WE_last rfl (by kernel_rfl) (fun K hK => ?_)
  go_simp
  refine hK.out _ _ ?_
  clear hK K
  have hk4 : Kept [] W w4 := hHeld.1
  go_wp2_with fail
  go_ret2
  exact ⟨A3, n3, c3, A4, n4, c4, rfl, HI3.out.later HB4.out, HI4.out, (keptTrans HKW.out hk4).toBelow⟩
set_option maxRecDepth 100000 in
set_option maxHeartbeats 4000000 in
theorem psame_eq (A B : Option Addr) (n a b : Nat) (l : List Pr) (w : World) (hA : Prs w A n l) (hB : Prs w B n l) (hn : n ≤ 9223372036854775807) :
    Calls Tryz.prog 32 #[.slice A n a, .slice B n b] w fun e w' => e = .returned (.bool true) ∧ Below w.heap.size w w' := by
  have HA := Lib.hid hA
  have HB := Lib.hid hB
  clear hA hB
  go_enter Tryz.func32, Tryz.ntmps32
  go_wp2_with fail
  go_loopw [5] (fun s5 wr => ∃ i : Nat, i ≤ n ∧ s5 = .int .i64 i ∧ Kept [] w wr) (fun s5 _ => n - (intOf s5).toNat)
  case atStart => exact ⟨0, Nat.zero_le _, rfl, Kept.refl _ _⟩
  case round =>
  obtain ⟨i, hi, rfl, hkr⟩ := hrel
  by_cases hlt : i < n
  · obtain ⟨b1, o1, rfl, hl1, hc1⟩ := HA.out.2 (by omega)
    obtain ⟨b2, o2, rfl, hl2, hc2⟩ := HB.out.2 (by omega)
    have r1 := (hkr.cell b1 _ hl1 (by simp)).trans (hc1 i hlt).1
    have r2 := (hkr.cell b2 _ hl2 (by simp)).trans (hc2 i hlt).1
    have r3 := (hkr.cell b1 _ hl1 (by simp)).trans (hc1 i hlt).2
    have r4 := (hkr.cell b2 _ hl2 (by simp)).trans (hc2 i hlt).2
    obtain ⟨x, y, hx⟩ : ∃ x y, gp l i = ⟨x, y⟩ := ⟨_, _, rfl⟩
    rw [hx] at r1 r2 r3 r4
    have l1 : b1 < wr.heap.size := Nat.lt_of_lt_of_le hl1 hkr.size
    have l2 : b2 < wr.heap.size := Nat.lt_of_lt_of_le hl2 hkr.size
    have hi9 : (i : Int) < (n : Int) := by omega
    clear hc1 hc2 hx
    go_upto_region 6 with fail
    go_quiet (fail)
    go_wp2_with fail
    exact ⟨⟨i + 1, by omega, by go_num, hkr.drewN _⟩, by simp [intOf]; omega⟩
  · obtain rfl : i = n := by omega
    go_wp2_with fail
    go_ret
    exact ⟨rfl, hkr.toBelow⟩
set_option maxRecDepth 100000 in
set_option maxHeartbeats 4000000 in
theorem samef_any (A B : Option Addr) (n a b : Nat) (l : List Int) (w : World) (hA : Ints w A n l) (hB : Ints w B n l) (hn : n ≤ 9223372036854775807) :
    Calls Tryz.prog 16 #[.slice A n a, .slice B n b] w fun e w' => e = .returned (.bool true) ∧ Below w.heap.size w w' := by
  have HA := Lib.hid hA
  have HB := Lib.hid hB
  clear hA hB
  go_enter Tryz.func16, Tryz.ntmps16
  go_wp2_with fail
  go_loopw [5] (fun s5 wr => ∃ i : Nat, i ≤ n ∧ s5 = .int .i64 i ∧ Kept [] w wr) (fun s5 _ => n - (intOf s5).toNat)
  case atStart => exact ⟨0, Nat.zero_le _, rfl, Kept.refl _ _⟩
  case round =>
  obtain ⟨i, hi, rfl, hkr⟩ := hrel
  by_cases hlt : i < n
  · obtain ⟨b1, o1, rfl, hl1, hc1⟩ := HA.out.2 (by omega)
    obtain ⟨b2, o2, rfl, hl2, hc2⟩ := HB.out.2 (by omega)
    have r1 := (hkr.cell b1 _ hl1 (by simp)).trans (hc1 i hlt)
    have r2 := (hkr.cell b2 _ hl2 (by simp)).trans (hc2 i hlt)
    obtain ⟨x, hx⟩ : ∃ x, gi l i = x := ⟨_, rfl⟩
    rw [hx] at r1 r2
    have l1 : b1 < wr.heap.size := Nat.lt_of_lt_of_le hl1 hkr.size
    have l2 : b2 < wr.heap.size := Nat.lt_of_lt_of_le hl2 hkr.size
    have hi9 : (i : Int) < (n : Int) := by omega
    clear hc1 hc2 hx
    go_upto_region 6 with fail
    go_quiet (fail)
    go_wp2_with fail
    exact ⟨⟨i + 1, by omega, by go_num, hkr.drewN _⟩, by simp [intOf]; omega⟩
  · obtain rfl : i = n := by omega
    go_wp2_with fail
    go_ret
    exact ⟨rfl, hkr.toBelow⟩
set_option maxRecDepth 100000 in
set_option maxHeartbeats 4000000 in
theorem same35_any (A B : Option Addr) (n a b : Nat) (L : List Su) (w : World) (hA : SmW w A n L) (hB : SmW w B n L) (hn : n ≤ 9223372036854775807) (hL : ∀ i, i < n → (gS L i).x.length ≤ 9223372036854775807 ∧ (gS L i).y.length ≤ 9223372036854775807) :
    Calls Tryz.prog 20 #[.slice A n a, .slice B n b] w fun e w' => e = .returned (.bool true) ∧ Below w.heap.size w w' := by
  have HA := Lib.hid hA
  have HB := Lib.hid hB
  have HL := Lib.hid hL
  clear hA hB hL
  go_enter Tryz.func20, Tryz.ntmps20
  go_wp2_with fail
  go_loopw [5] (fun s5 wr => ∃ i : Nat, i ≤ n ∧ s5 = .int .i64 i ∧ Kept [] w wr) (fun s5 _ => n - (intOf s5).toNat)
  case atStart => exact ⟨0, Nat.zero_le _, rfl, Kept.refl _ _⟩
  case round =>
  obtain ⟨i, hi, rfl, hkr⟩ := hrel
  by_cases hlt : i < n
  case neg =>
    obtain rfl : i = n := by omega
    go_wp2_with fail
    go_ret
    exact ⟨rfl, hkr.toBelow⟩
  obtain ⟨b1, o1, rfl, hl1, hc1⟩ := (HA.out.later hkr.toBelow).mem (by omega)
  obtain ⟨b2, o2, rfl, hl2, hc2⟩ := (HB.out.later hkr.toBelow).mem (by omega)
  obtain ⟨E, ne, ce, T, nt, ct, c0, c1, c2, hx, hy⟩ := hc1 i hlt
  obtain ⟨E', ne', ce', T', nt', ct', d0, d1, d2, hx', hy'⟩ := hc2 i hlt
  obtain rfl : ne = ne' := hx.1.symm.trans hx'.1
  obtain rfl : nt = nt' := hy.1.symm.trans hy'.1
  have hnl := HL.out i hlt
  rw [hx.1, hy.1] at hnl
  obtain ⟨hne, hnt⟩ := hnl
  obtain ⟨u, hu⟩ : ∃ u, gS L i = u := ⟨_, rfl⟩
  rw [hu] at c0 d0 hx hy hx' hy'
  obtain ⟨uf, ux, uy⟩ := u
  have HX1 := Lib.hid hx
  have HX2 := Lib.hid hx'
  have HY1 := Lib.hid hy
  have HY2 := Lib.hid hy'
  have hi9 : (i : Int) < (n : Int) := by omega
  clear hc1 hc2 hu hx hy hx' hy'
  go_upto_region 6 with fail
  -- MARK1
  refine wp_region_E 38 (fun w' => SX0 wr w') (by kernel_rfl) (by (repeat' first | (with_reducible assumption) | (with_reducible exact SX0.init _) | (with_reducible exact SX0.refl _) | (with_reducible refine SX0.alloc ?_ _) | (with_reducible refine SX0.call ?_ (by assumption)) | (with_reducible refine SX0.set ?_ _ _ _ ?_) | (with_reducible refine SX0.drew ?_) | (simp; done) | omega | (simp; omega))) (fun hHeld => ?_)
  refine WE_take 0 (v := ?_) rfl (by kernel_rfl) (fun _ _ _ h => h) (Or.inl ⟨by rfl, ?_⟩) (by assumption) ?_; rotate_left; (· intro w9 hSw; (try dsimp only at hSw); go_simp; try with_reducible rfl); (try simp only [Act.put, List.setIfInBounds_toArray, List.set_cons_zero, List.set_cons_succ])
  refine WE_take 1 (v := ?_) rfl (by kernel_rfl) (fun _ _ _ h => h) (Or.inl ⟨by rfl, ?_⟩) (by assumption) ?_; rotate_left; (· intro w9 hSw; (try dsimp only at hSw); go_simp; try with_reducible rfl); (try simp only [Act.put, List.setIfInBounds_toArray, List.set_cons_zero, List.set_cons_succ])
  refine WE_take 2 (v := ?_) rfl (by kernel_rfl) (fun _ _ _ h => h) (Or.inl ⟨by rfl, ?_⟩) (by assumption) ?_; rotate_left; (· intro w9 hSw; (try dsimp only at hSw); go_simp; try with_reducible rfl); (try simp only [Act.put, List.setIfInBounds_toArray, List.set_cons_zero, List.set_cons_succ])
  refine WE_take 3 (v := ?_) rfl (by kernel_rfl) (fun _ _ _ h => h) (Or.inl ⟨by rfl, ?_⟩) (by assumption) ?_; rotate_left; (· intro w9 hSw; (try dsimp only at hSw); go_simp; try with_reducible rfl); (try simp only [Act.put, List.setIfInBounds_toArray, List.set_cons_zero, List.set_cons_succ])
  refine WE_take 4 (v := ?_) rfl (by kernel_rfl) (fun _ _ _ h => h) (Or.inl ⟨by rfl, ?_⟩) (by assumption) ?_; rotate_left; (· intro w9 hSw; (try dsimp only at hSw); go_simp; try with_reducible rfl); (try simp only [Act.put, List.setIfInBounds_toArray, List.set_cons_zero, List.set_cons_succ])
  refine WE_take 5 (v := ?_) rfl (by kernel_rfl) (fun _ _ _ h => h) (Or.inl ⟨by rfl, ?_⟩) (by assumption) ?_; rotate_left; (· intro w9 hSw; (try dsimp only at hSw); go_simp; try with_reducible rfl); (try simp only [Act.put, List.setIfInBounds_toArray, List.set_cons_zero, List.set_cons_succ])
  refine WE_take 6 (v := ?_) rfl (by kernel_rfl) (fun _ _ _ h => h) (Or.inl ⟨by rfl, ?_⟩) (by assumption) ?_; rotate_left; (· intro w9 hSw; (try dsimp only at hSw); go_simp; try with_reducible rfl); (try simp only [Act.put, List.setIfInBounds_toArray, List.set_cons_zero, List.set_cons_succ])
  refine WE_take 7 (v := ?_) rfl (by kernel_rfl) (fun _ _ _ h => h) (Or.inl ⟨by rfl, ?_⟩) (by assumption) ?_; rotate_left; (· intro w9 hSw; (try dsimp only at hSw); go_simp; try with_reducible rfl); (try simp only [Act.put, List.setIfInBounds_toArray, List.set_cons_zero, List.set_cons_succ])
  refine WE_take 8 (v := ?_) rfl (by kernel_rfl) (fun _ _ _ h => h) (Or.inl ⟨by rfl, ?_⟩) (by assumption) ?_; rotate_left; (· intro w9 hSw; (try dsimp only at hSw); go_simp; try with_reducible rfl); (try simp only [Act.put, List.setIfInBounds_toArray, List.set_cons_zero, List.set_cons_succ])
  refine WE_take 9 (v := ?_) rfl (by kernel_rfl) (fun _ _ _ h => h) (Or.inl ⟨by rfl, ?_⟩) (by assumption) ?_; rotate_left; (· intro w9 hSw; (try dsimp only at hSw); go_simp; try with_reducible rfl); (try simp only [Act.put, List.setIfInBounds_toArray, List.set_cons_zero, List.set_cons_succ])
  refine WE_take 10 (v := ?_) rfl (by kernel_rfl) (fun _ _ _ h => h) (Or.inl ⟨by rfl, ?_⟩) (by assumption) ?_; rotate_left; (· intro w9 hSw; (try dsimp only at hSw); go_simp; try with_reducible rfl); (try simp only [Act.put, List.setIfInBounds_toArray, List.set_cons_zero, List.set_cons_succ])
  refine WE_take 11 (v := ?_) rfl (by kernel_rfl) (fun _ _ _ h => h) (Or.inl ⟨by rfl, ?_⟩) (by assumption) ?_; rotate_left; (· intro w9 hSw; (try dsimp only at hSw); go_simp; try with_reducible rfl); (try simp only [Act.put, List.setIfInBounds_toArray, List.set_cons_zero, List.set_cons_succ])
  first | (refine WE_take 12 (v := undef) rfl (by kernel_rfl) (fun _ _ _ h => h) (Or.inr ⟨by rfl, rfl⟩) (by assumption) ?_; (try simp only [Act.put, List.setIfInBounds_toArray, List.set_cons_zero, List.set_cons_succ])) | (refine WE_take 12 (v := ?_) rfl (by kernel_rfl) (fun _ _ _ h => h) (Or.inl ⟨by rfl, ?_⟩) (by assumption) ?_; rotate_left; (· intro w9 hSw; (try dsimp only at hSw); go_simp; try with_reducible rfl); (try simp only [Act.put, List.setIfInBounds_toArray, List.set_cons_zero, List.set_cons_succ]))
  first | (refine WE_take 13 (v := undef) rfl (by kernel_rfl) (fun _ _ _ h => h) (Or.inr ⟨by rfl, rfl⟩) (by assumption) ?_; (try simp only [Act.put, List.setIfInBounds_toArray, List.set_cons_zero, List.set_cons_succ])) | (refine WE_take 13 (v := ?_) rfl (by kernel_rfl) (fun _ _ _ h => h) (Or.inl ⟨by rfl, ?_⟩) (by assumption) ?_; rotate_left; (· intro w9 hSw; (try dsimp only at hSw); go_simp; try with_reducible rfl); (try simp only [Act.put, List.setIfInBounds_toArray, List.set_cons_zero, List.set_cons_succ]))
  first | (refine WE_take 14 (v := undef) rfl (by kernel_rfl) (fun _ _ _ h => h) (Or.inr ⟨by rfl, rfl⟩) (by assumption) ?_; (try simp only [Act.put, List.setIfInBounds_toArray, List.set_cons_zero, List.set_cons_succ])) | (refine WE_take 14 (v := ?_) rfl (by kernel_rfl) (fun _ _ _ h => h) (Or.inl ⟨by rfl, ?_⟩) (by assumption) ?_; rotate_left; (· intro w9 hSw; (try dsimp only at hSw); go_simp; try with_reducible rfl); (try simp only [Act.put, List.setIfInBounds_toArray, List.set_cons_zero, List.set_cons_succ]))
  first | (refine WE_take 15 (v := undef) rfl (by kernel_rfl) (fun _ _ _ h => h) (Or.inr ⟨by rfl, rfl⟩) (by assumption) ?_; (try simp only [Act.put, List.setIfInBounds_toArray, List.set_cons_zero, List.set_cons_succ])) | (refine WE_take 15 (v := ?_) rfl (by kernel_rfl) (fun _ _ _ h => h) (Or.inl ⟨by rfl, ?_⟩) (by assumption) ?_; rotate_left; (· intro w9 hSw; (try dsimp only at hSw); go_simp; try with_reducible rfl); (try simp only [Act.put, List.setIfInBounds_toArray, List.set_cons_zero, List.set_cons_succ]))
  first | (refine WE_take 16 (v := undef) rfl (by kernel_rfl) (fun _ _ _ h => h) (Or.inr ⟨by rfl, rfl⟩) (by assumption) ?_; (try simp only [Act.put, List.setIfInBounds_toArray, List.set_cons_zero, List.set_cons_succ])) | (refine WE_take 16 (v := ?_) rfl (by kernel_rfl) (fun _ _ _ h => h) (Or.inl ⟨by rfl, ?_⟩) (by assumption) ?_; rotate_left; (· intro w9 hSw; (try dsimp only at hSw); go_simp; try with_reducible rfl); (try simp only [Act.put, List.setIfInBounds_toArray, List.set_cons_zero, List.set_cons_succ]))
  first | (refine WE_take 17 (v := undef) rfl (by kernel_rfl) (fun _ _ _ h => h) (Or.inr ⟨by rfl, rfl⟩) (by assumption) ?_; (try simp only [Act.put, List.setIfInBounds_toArray, List.set_cons_zero, List.set_cons_succ])) | (refine WE_take 17 (v := ?_) rfl (by kernel_rfl) (fun _ _ _ h => h) (Or.inl ⟨by rfl, ?_⟩) (by assumption) ?_; rotate_left; (· intro w9 hSw; (try dsimp only at hSw); go_simp; try with_reducible rfl); (try simp only [Act.put, List.setIfInBounds_toArray, List.set_cons_zero, List.set_cons_succ]))
  first | (refine WE_take 18 (v := undef) rfl (by kernel_rfl) (fun _ _ _ h => h) (Or.inr ⟨by rfl, rfl⟩) (by assumption) ?_; (try simp only [Act.put, List.setIfInBounds_toArray, List.set_cons_zero, List.set_cons_succ])) | (refine WE_take 18 (v := ?_) rfl (by kernel_rfl) (fun _ _ _ h => h) (Or.inl ⟨by rfl, ?_⟩) (by assumption) ?_; rotate_left; (· intro w9 hSw; (try dsimp only at hSw); go_simp; try with_reducible rfl); (try simp only [Act.put, List.setIfInBounds_toArray, List.set_cons_zero, List.set_cons_succ]))
  first | (refine WE_take 19 (v := undef) rfl (by kernel_rfl) (fun _ _ _ h => h) (Or.inr ⟨by rfl, rfl⟩) (by assumption) ?_; (try simp only [Act.put, List.setIfInBounds_toArray, List.set_cons_zero, List.set_cons_succ])) | (refine WE_take 19 (v := ?_) rfl (by kernel_rfl) (fun _ _ _ h => h) (Or.inl ⟨by rfl, ?_⟩) (by assumption) ?_; rotate_left; (· intro w9 hSw; (try dsimp only at hSw); go_simp; try with_reducible rfl); (try simp only [Act.put, List.setIfInBounds_toArray, List.set_cons_zero, List.set_cons_succ]))
  first | (refine WE_take 20 (v := undef) rfl (by kernel_rfl) (fun _ _ _ h => h) (Or.inr ⟨by rfl, rfl⟩) (by assumption) ?_; (try simp only [Act.put, List.setIfInBounds_toArray, List.set_cons_zero, List.set_cons_succ])) | (refine WE_take 20 (v := ?_) rfl (by kernel_rfl) (fun _ _ _ h => h) (Or.inl ⟨by rfl, ?_⟩) (by assumption) ?_; rotate_left; (· intro w9 hSw; (try dsimp only at hSw); go_simp; try with_reducible rfl); (try simp only [Act.put, List.setIfInBounds_toArray, List.set_cons_zero, List.set_cons_succ]))
  first | (refine WE_take 21 (v := undef) rfl (by kernel_rfl) (fun _ _ _ h => h) (Or.inr ⟨by rfl, rfl⟩) (by assumption) ?_; (try simp only [Act.put, List.setIfInBounds_toArray, List.set_cons_zero, List.set_cons_succ])) | (refine WE_take 21 (v := ?_) rfl (by kernel_rfl) (fun _ _ _ h => h) (Or.inl ⟨by rfl, ?_⟩) (by assumption) ?_; rotate_left; (· intro w9 hSw; (try dsimp only at hSw); go_simp; try with_reducible rfl); (try simp only [Act.put, List.setIfInBounds_toArray, List.set_cons_zero, List.set_cons_succ]))
  refine WE_step 22 rfl (by kernel_rfl) (fun K hK => ?_)
  go_simp
  (first | (go_at_call 32; with_reducible refine (psame_eq E E' ne ce ce' ux _ (HX1.out.later hHeld.1.toBelow) (HX2.out.later hHeld.1.toBelow) hne).mono ?_; rintro e w3 ⟨rfl, hb3⟩) | (go_at_call 32; with_reducible refine (psame_eq T T' nt ct ct' uy _ (HY1.out.later hHeld.1.toBelow) (HY2.out.later hHeld.1.toBelow) hnt).mono ?_; rintro e w4 ⟨rfl, hb4⟩))
  (try go_wp2_with fail)
  refine hK.out _ _ ?_ (fun hHeld => ?_)
  · (repeat' first | (with_reducible assumption) | (with_reducible exact SX0.init _) | (with_reducible exact SX0.refl _) | (with_reducible refine SX0.alloc ?_ _) | (with_reducible refine SX0.call ?_ (by assumption)) | (with_reducible refine SX0.set ?_ _ _ _ ?_) | (with_reducible refine SX0.drew ?_) | (simp; done) | omega | (simp; omega))
  clear hK K
  try simp only [Act.put, List.setIfInBounds_toArray, List.set_cons_zero, List.set_cons_succ]
  first | (refine WE_take 23 (v := undef) rfl (by kernel_rfl) (fun _ _ _ h => h) (Or.inr ⟨by rfl, rfl⟩) (by assumption) ?_; (try simp only [Act.put, List.setIfInBounds_toArray, List.set_cons_zero, List.set_cons_succ])) | (refine WE_take 23 (v := ?_) rfl (by kernel_rfl) (fun _ _ _ h => h) (Or.inl ⟨by rfl, ?_⟩) (by assumption) ?_; rotate_left; (· intro w9 hSw; (try dsimp only at hSw); go_simp; try with_reducible rfl); (try simp only [Act.put, List.setIfInBounds_toArray, List.set_cons_zero, List.set_cons_succ]))
  refine WE_take 24 (v := ?_) rfl (by kernel_rfl) (fun _ _ _ h => h) (Or.inl ⟨by rfl, ?_⟩) (by assumption) ?_; rotate_left; (· intro w9 hSw; (try dsimp only at hSw); go_simp; try with_reducible rfl); (try simp only [Act.put, List.setIfInBounds_toArray, List.set_cons_zero, List.set_cons_succ])
  refine WE_take 25 (v := ?_) rfl (by kernel_rfl) (fun _ _ _ h => h) (Or.inl ⟨by rfl, ?_⟩) (by assumption) ?_; rotate_left; (· intro w9 hSw; (try dsimp only at hSw); go_simp; try with_reducible rfl); (try simp only [Act.put, List.setIfInBounds_toArray, List.set_cons_zero, List.set_cons_succ])
  first | (refine WE_take 26 (v := undef) rfl (by kernel_rfl) (fun _ _ _ h => h) (Or.inr ⟨by rfl, rfl⟩) (by assumption) ?_; (try simp only [Act.put, List.setIfInBounds_toArray, List.set_cons_zero, List.set_cons_succ])) | (refine WE_take 26 (v := ?_) rfl (by kernel_rfl) (fun _ _ _ h => h) (Or.inl ⟨by rfl, ?_⟩) (by assumption) ?_; rotate_left; (· intro w9 hSw; (try dsimp only at hSw); go_simp; try with_reducible rfl); (try simp only [Act.put, List.setIfInBounds_toArray, List.set_cons_zero, List.set_cons_succ]))
  first | (refine WE_take 27 (v := undef) rfl (by kernel_rfl) (fun _ _ _ h => h) (Or.inr ⟨by rfl, rfl⟩) (by assumption) ?_; (try simp only [Act.put, List.setIfInBounds_toArray, List.set_cons_zero, List.set_cons_succ])) | (refine WE_take 27 (v := ?_) rfl (by kernel_rfl) (fun _ _ _ h => h) (Or.inl ⟨by rfl, ?_⟩) (by assumption) ?_; rotate_left; (· intro w9 hSw; (try dsimp only at hSw); go_simp; try with_reducible rfl); (try simp only [Act.put, List.setIfInBounds_toArray, List.set_cons_zero, List.set_cons_succ]))
  first | (refine WE_take 28 (v := undef) rfl (by kernel_rfl) (fun _ _ _ h => h) (Or.inr ⟨by rfl, rfl⟩) (by assumption) ?_; (try simp only [Act.put, List.setIfInBounds_toArray, List.set_cons_zero, List.set_cons_succ])) | (refine WE_take 28 (v := ?_) rfl (by kernel_rfl) (fun _ _ _ h => h) (Or.inl ⟨by rfl, ?_⟩) (by assumption) ?_; rotate_left; (· intro w9 hSw; (try dsimp only at hSw); go_simp; try with_reducible rfl); (try simp only [Act.put, List.setIfInBounds_toArray, List.set_cons_zero, List.set_cons_succ]))
  first | (refine WE_take 29 (v := undef) rfl (by kernel_rfl) (fun _ _ _ h => h) (Or.inr ⟨by rfl, rfl⟩) (by assumption) ?_; (try simp only [Act.put, List.setIfInBounds_toArray, List.set_cons_zero, List.set_cons_succ])) | (refine WE_take 29 (v := ?_) rfl (by kernel_rfl) (fun _ _ _ h => h) (Or.inl ⟨by rfl, ?_⟩) (by assumption) ?_; rotate_left; (· intro w9 hSw; (try dsimp only at hSw); go_simp; try with_reducible rfl); (try simp only [Act.put, List.setIfInBounds_toArray, List.set_cons_zero, List.set_cons_succ]))
  first | (refine WE_take 30 (v := undef) rfl (by kernel_rfl) (fun _ _ _ h => h) (Or.inr ⟨by rfl, rfl⟩) (by assumption) ?_; (try simp only [Act.put, List.setIfInBounds_toArray, List.set_cons_zero, List.set_cons_succ])) | (refine WE_take 30 (v := ?_) rfl (by kernel_rfl) (fun _ _ _ h => h) (Or.inl ⟨by rfl, ?_⟩) (by assumption) ?_; rotate_left; (· intro w9 hSw; (try dsimp only at hSw); go_simp; try with_reducible rfl); (try simp only [Act.put, List.setIfInBounds_toArray, List.set_cons_zero, List.set_cons_succ]))
  first | (refine WE_take 31 (v := undef) rfl (by kernel_rfl) (fun _ _ _ h => h) (Or.inr ⟨by rfl, rfl⟩) (by assumption) ?_; (try simp only [Act.put, List.setIfInBounds_toArray, List.set_cons_zero, List.set_cons_succ])) | (refine WE_take 31 (v := ?_) rfl (by kernel_rfl) (fun _ _ _ h => h) (Or.inl ⟨by rfl, ?_⟩) (by assumption) ?_; rotate_left; (· intro w9 hSw; (try dsimp only at hSw); go_simp; try with_reducible rfl); (try simp only [Act.put, List.setIfInBounds_toArray, List.set_cons_zero, List.set_cons_succ]))
  first | (refine WE_take 32 (v := undef) rfl (by kernel_rfl) (fun _ _ _ h => h) (Or.inr ⟨by rfl, rfl⟩) (by assumption) ?_; (try simp only [Act.put, List.setIfInBounds_toArray, List.set_cons_zero, List.set_cons_succ])) | (refine WE_take 32 (v := ?_) rfl (by kernel_rfl) (fun _ _ _ h => h) (Or.inl ⟨by rfl, ?_⟩) (by assumption) ?_; rotate_left; (· intro w9 hSw; (try dsimp only at hSw); go_simp; try with_reducible rfl); (try simp only [Act.put, List.setIfInBounds_toArray, List.set_cons_zero, List.set_cons_succ]))
  first | (refine WE_take 33 (v := undef) rfl (by kernel_rfl) (fun _ _ _ h => h) (Or.inr ⟨by rfl, rfl⟩) (by assumption) ?_; (try simp only [Act.put, List.setIfInBounds_toArray, List.set_cons_zero, List.set_cons_succ])) | (refine WE_take 33 (v := ?_) rfl (by kernel_rfl) (fun _ _ _ h => h) (Or.inl ⟨by rfl, ?_⟩) (by assumption) ?_; rotate_left; (· intro w9 hSw; (try dsimp only at hSw); go_simp; try with_reducible rfl); (try simp only [Act.put, List.setIfInBounds_toArray, List.set_cons_zero, List.set_cons_succ]))
  first | (refine WE_take 34 (v := undef) rfl (by kernel_rfl) (fun _ _ _ h => h) (Or.inr ⟨by rfl, rfl⟩) (by assumption) ?_; (try simp only [Act.put, List.setIfInBounds_toArray, List.set_cons_zero, List.set_cons_succ])) | (refine WE_take 34 (v := ?_) rfl (by kernel_rfl) (fun _ _ _ h => h) (Or.inl ⟨by rfl, ?_⟩) (by assumption) ?_; rotate_left; (· intro w9 hSw; (try dsimp only at hSw); go_simp; try with_reducible rfl); (try simp only [Act.put, List.setIfInBounds_toArray, List.set_cons_zero, List.set_cons_succ]))
  first | (refine WE_take 35 (v := undef) rfl (by kernel_rfl) (fun _ _ _ h => h) (Or.inr ⟨by rfl, rfl⟩) (by assumption) ?_; (try simp only [Act.put, List.setIfInBounds_toArray, List.set_cons_zero, List.set_cons_succ])) | (refine WE_take 35 (v := ?_) rfl (by kernel_rfl) (fun _ _ _ h => h) (Or.inl ⟨by rfl, ?_⟩) (by assumption) ?_; rotate_left; (· intro w9 hSw; (try dsimp only at hSw); go_simp; try with_reducible rfl); (try simp only [Act.put, List.setIfInBounds_toArray, List.set_cons_zero, List.set_cons_succ]))
  refine WE_step 36 rfl (by kernel_rfl) (fun K hK => ?_)
  go_simp
  (first | (go_at_call 32; with_reducible refine (psame_eq E E' ne ce ce' ux _ (HX1.out.later hHeld.1.toBelow) (HX2.out.later hHeld.1.toBelow) hne).mono ?_; rintro e w3 ⟨rfl, hb3⟩) | (go_at_call 32; with_reducible refine (psame_eq T T' nt ct ct' uy _ (HY1.out.later hHeld.1.toBelow) (HY2.out.later hHeld.1.toBelow) hnt).mono ?_; rintro e w4 ⟨rfl, hb4⟩))
  (try go_wp2_with fail)
  refine hK.out _ _ ?_ (fun hHeld => ?_)
  · (repeat' first | (with_reducible assumption) | (with_reducible exact SX0.init _) | (with_reducible exact SX0.refl _) | (with_reducible refine SX0.alloc ?_ _) | (with_reducible refine SX0.call ?_ (by assumption)) | (with_reducible refine SX0.set ?_ _ _ _ ?_) | (with_reducible refine SX0.drew ?_) | (simp; done) | omega | (simp; omega))
  clear hK K
  try simp only [Act.put, List.setIfInBounds_toArray, List.set_cons_zero, List.set_cons_succ]
  first | (refine WE_take 37 (v := undef) rfl (by kernel_rfl) (fun _ _ _ h => h) (Or.inr ⟨by rfl, rfl⟩) (by assumption) ?_; (try simp only [Act.put, List.setIfInBounds_toArray, List.set_cons_zero, List.set_cons_succ])) | (refine WE_take 37 (v := ?_) rfl (by kernel_rfl) (fun _ _ _ h => h) (Or.inl ⟨by rfl, ?_⟩) (by assumption) ?_; rotate_left; (· intro w9 hSw; (try dsimp only at hSw); go_simp; try with_reducible rfl); (try simp only [Act.put, List.setIfInBounds_toArray, List.set_cons_zero, List.set_cons_succ]))
  refine WE_last rfl (by kernel_rfl) (fun K hK => ?_)
  go_simp
  refine hK.out _ _ ?_
  clear hK K
  have hk4 : Kept [] wr w4 := hHeld.1
  go_wp2_with fail
  exact ⟨⟨i + 1, by omega, by go_num, keptTrans hkr hk4⟩, by simp [intOf]; omega⟩
set_option maxRecDepth 100000 in
set_option maxHeartbeats 4000000 in
theorem short_any (A : Option Addr) (n c : Nat) (L : List Su) (w : World) (hS : SmW w A n L) (hn : n ≤ 9223372036854775807) :
    Calls Tryz.prog 10 #[.slice A n c] w fun e w' => (∃ s : Bool, e = .returned (.bool s)) ∧ Below w.heap.size w w' := by
  have HS := Lib.hid hS
  clear hS
  by_cases h20 : 20 < n
  case' pos =>
    have g1 : decide ((20 : Int) < (n : Int)) = true := by simp; omega
    by_cases h256 : n ≤ 256
    case pos =>
      have g2 : decide ((n : Int) ≤ 256) = true := by simp; omega
      clear h20 h256
      as_aux_lemma =>
        go_enter Tryz.func10, Tryz.ntmps10
        go_wp2_with fail
        go_ret
        exact ⟨⟨_, rfl⟩, Below.refl _ _⟩
    have g2 : decide ((n : Int) ≤ 256) = false := by simp; omega
    clear h20 h256
  case' neg =>
    have g1 : decide ((20 : Int) < (n : Int)) = false := by simp; omega
    clear h20
  all_goals
    go_enter Tryz.func10, Tryz.ntmps10
    go_wp2_with fail
    go_loopw [3] (fun s3 wr => ∃ i : Nat, i ≤ n ∧ s3 = .int .i64 i ∧ Kept [] w wr) (fun s3 _ => n - (intOf s3).toNat)
    case atStart => exact ⟨0, Nat.zero_le _, rfl, Kept.refl _ _⟩
    case round =>
    obtain ⟨i, hi, rfl, hkr⟩ := hrel
    by_cases hlt : i < n
    case neg =>
      obtain rfl : i = n := by omega
      as_aux_lemma =>
        go_wp2_with fail
        go_ret
        exact ⟨⟨_, rfl⟩, hkr.toBelow⟩
    obtain ⟨b1, o1, rfl, hl1, hc1⟩ := (HS.out.later hkr.toBelow).mem (by omega)
    obtain ⟨E, ne, ce, T, nt, ct, -, c1, c2, -, -⟩ := hc1 i hlt
    have hi9 : (i : Int) < (n : Int) := by omega
    clear hc1
    by_cases q1 : 100 < ne
    · have g3 : decide ((100 : Int) < (ne : Int)) = true := by simp; omega
      clear q1
      as_aux_lemma =>
        go_wp2_with fail
        go_ret
        exact ⟨⟨_, rfl⟩, hkr.toBelow⟩
    have g3 : decide ((100 : Int) < (ne : Int)) = false := by simp; omega
    by_cases q2 : 100 < nt
    · have g4 : decide ((100 : Int) < (nt : Int)) = true := by simp; omega
      clear q1 q2
      as_aux_lemma =>
        go_wp2_with fail
        go_ret
        exact ⟨⟨_, rfl⟩, hkr.toBelow⟩
    have g4 : decide ((100 : Int) < (nt : Int)) = false := by simp; omega
    clear q1 q2
    as_aux_lemma =>
      go_wp2_with fail
      exact ⟨⟨i + 1, by omega, by go_num, hkr⟩, by simp [intOf]; omega⟩
end Go.Proofs.YtooejoajojanjaaGreatDoor
