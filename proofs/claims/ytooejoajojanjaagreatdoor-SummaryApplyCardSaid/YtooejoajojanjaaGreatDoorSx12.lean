/- Texts: Rf Pk. -/
import Derived.Test.YtooejoajojanjaaGreatDoorSx04
import Derived.Test.YtooejoajojanjaaGreatDoorSx03
import Derived.Test.YtooejoajojanjaaGreatDoorSx11
namespace Go.Proofs.YtooejoajojanjaaGreatDoor
open Go.RowKit Go.Df Go.Df.If
attribute [local go_sem ↓] Go.wp_at_zero Go.wp_at_succ
set_option maxRecDepth 100000 in
set_option maxHeartbeats 4000000 in
theorem psame_eq (A B : Option Addr) (n a b : Nat) (l : List Pr) (w : World) (hA : Prs w A n l) (hB : Prs w B n l) (hn : n ≤ 9223372036854775807) :
    Calls Tryz.prog 32 #[.slice A n a, .slice B n b] w fun e w' => e = .returned (.bool true) ∧ Below w.heap.size w w' := by
  have HA := Lib.hid hA
  have HB := Lib.hid hB
  clear hA hB
  go_enter Tryz.func32, Tryz.ntmps32
  go_wp2_with fail
  go_loopw [5] (fun s5 wr => ∃ i : Nat, i ≤ n ∧ s5 = .int .i64 i ∧ Kept [] w wr) (fun s5 _ => n - (intOf s5).toNat)
  case atStart => exact ⟨0, Nat.zero_le _, rfl, Kept.refl _ _⟩
  case round =>
  obtain ⟨i, hi, rfl, hkr⟩ := hrel
  by_cases hlt : i < n
  · obtain ⟨b1, o1, rfl, hl1, hc1⟩ := HA.out.2 (by omega)
    obtain ⟨b2, o2, rfl, hl2, hc2⟩ := HB.out.2 (by omega)
    have r1 := (hkr.cell b1 _ hl1 (by simp)).trans (hc1 i hlt).1
    have r2 := (hkr.cell b2 _ hl2 (by simp)).trans (hc2 i hlt).1
    have r3 := (hkr.cell b1 _ hl1 (by simp)).trans (hc1 i hlt).2
    have r4 := (hkr.cell b2 _ hl2 (by simp)).trans (hc2 i hlt).2
    obtain ⟨x, y, hx⟩ : ∃ x y, gp l i = ⟨x, y⟩ := ⟨_, _, rfl⟩
    rw [hx] at r1 r2 r3 r4
    have l1 : b1 < wr.heap.size := Nat.lt_of_lt_of_le hl1 hkr.size
    have l2 : b2 < wr.heap.size := Nat.lt_of_lt_of_le hl2 hkr.size
    have hi9 : (i : Int) < (n : Int) := by omega
    clear hc1 hc2 hx
    go_upto_region 6 with fail
    go_quiet (fail)
    go_wp2_with fail
    exact ⟨⟨i + 1, by omega, by go_num, hkr.drewN _⟩, by simp [intOf]; omega⟩
  · obtain rfl : i = n := by omega
    go_wp2_with fail
    go_ret
    exact ⟨rfl, hkr.toBelow⟩
set_option maxRecDepth 100000 in
set_option maxHeartbeats 4000000 in
theorem samef_any (A B : Option Addr) (n a b : Nat) (l : List Int) (w : World) (hA : Ints w A n l) (hB : Ints w B n l) (hn : n ≤ 9223372036854775807) :
    Calls Tryz.prog 16 #[.slice A n a, .slice B n b] w fun e w' => e = .returned (.bool true) ∧ Below w.heap.size w w' := by
  have HA := Lib.hid hA
  have HB := Lib.hid hB
  clear hA hB
  go_enter Tryz.func16, Tryz.ntmps16
  go_wp2_with fail
  go_loopw [5] (fun s5 wr => ∃ i : Nat, i ≤ n ∧ s5 = .int .i64 i ∧ Kept [] w wr) (fun s5 _ => n - (intOf s5).toNat)
  case atStart => exact ⟨0, Nat.zero_le _, rfl, Kept.refl _ _⟩
  case round =>
  obtain ⟨i, hi, rfl, hkr⟩ := hrel
  by_cases hlt : i < n
  · obtain ⟨b1, o1, rfl, hl1, hc1⟩ := HA.out.2 (by omega)
    obtain ⟨b2, o2, rfl, hl2, hc2⟩ := HB.out.2 (by omega)
    have r1 := (hkr.cell b1 _ hl1 (by simp)).trans (hc1 i hlt)
    have r2 := (hkr.cell b2 _ hl2 (by simp)).trans (hc2 i hlt)
    obtain ⟨x, hx⟩ : ∃ x, gi l i = x := ⟨_, rfl⟩
    rw [hx] at r1 r2
    have l1 : b1 < wr.heap.size := Nat.lt_of_lt_of_le hl1 hkr.size
    have l2 : b2 < wr.heap.size := Nat.lt_of_lt_of_le hl2 hkr.size
    have hi9 : (i : Int) < (n : Int) := by omega
    clear hc1 hc2 hx
    go_upto_region 6 with fail
    go_quiet (fail)
    go_wp2_with fail
    exact ⟨⟨i + 1, by omega, by go_num, hkr.drewN _⟩, by simp [intOf]; omega⟩
  · obtain rfl : i = n := by omega
    go_wp2_with fail
    go_ret
    exact ⟨rfl, hkr.toBelow⟩
set_option maxRecDepth 100000 in
set_option maxHeartbeats 4000000 in
theorem same35_any (A B : Option Addr) (n a b : Nat) (L : List Su) (w : World) (hA : SmW w A n L) (hB : SmW w B n L) (hn : n ≤ 9223372036854775807) (hL : ∀ i, i < n → (gS L i).x.length ≤ 9223372036854775807 ∧ (gS L i).y.length ≤ 9223372036854775807) :
    Calls Tryz.prog 20 #[.slice A n a, .slice B n b] w fun e w' => e = .returned (.bool true) ∧ Below w.heap.size w w' := by
  have HA := Lib.hid hA
  have HB := Lib.hid hB
  have HL := Lib.hid hL
  clear hA hB hL
  go_enter Tryz.func20, Tryz.ntmps20
  go_wp2_with fail
  go_loopw [5] (fun s5 wr => ∃ i : Nat, i ≤ n ∧ s5 = .int .i64 i ∧ Kept [] w wr) (fun s5 _ => n - (intOf s5).toNat)
  case atStart => exact ⟨0, Nat.zero_le _, rfl, Kept.refl _ _⟩
  case round =>
  obtain ⟨i, hi, rfl, hkr⟩ := hrel
  by_cases hlt : i < n
  case neg =>
    obtain rfl : i = n := by omega
    go_wp2_with fail
    go_ret
    exact ⟨rfl, hkr.toBelow⟩
  obtain ⟨b1, o1, rfl, hl1, hc1⟩ := (HA.out.later hkr.toBelow).mem (by omega)
  obtain ⟨b2, o2, rfl, hl2, hc2⟩ := (HB.out.later hkr.toBelow).mem (by omega)
  obtain ⟨E, ne, ce, T, nt, ct, c0, c1, c2, hx, hy⟩ := hc1 i hlt
  obtain ⟨E', ne', ce', T', nt', ct', d0, d1, d2, hx', hy'⟩ := hc2 i hlt
  obtain rfl : ne = ne' := hx.1.symm.trans hx'.1
  obtain rfl : nt = nt' := hy.1.symm.trans hy'.1
  have hnl := HL.out i hlt
  rw [hx.1, hy.1] at hnl
  obtain ⟨hne, hnt⟩ := hnl
  obtain ⟨u, hu⟩ : ∃ u, gS L i = u := ⟨_, rfl⟩
  rw [hu] at c0 d0 hx hy hx' hy'
  obtain ⟨uf, ux, uy⟩ := u
  have HX1 := Lib.hid hx
  have HX2 := Lib.hid hx'
  have HY1 := Lib.hid hy
  have HY2 := Lib.hid hy'
  have hi9 : (i : Int) < (n : Int) := by omega
  clear hc1 hc2 hu hx hy hx' hy'
  go_upto_region 6 with fail
  -- MARK1
  refine wp_region_E 38 (fun w' => SX0 wr w') (by kernel_rfl) (by (repeat' first | (with_reducible assumption) | (with_reducible exact SX0.init _) | (with_reducible exact SX0.refl _) | (with_reducible refine SX0.alloc ?_ _) | (with_reducible refine SX0.call ?_ (by assumption)) | (with_reducible refine SX0.set ?_ _ _ _ ?_) | (with_reducible refine SX0.drew ?_) | (simp; done) | omega | (simp; omega))) (fun hHeld => ?_)
  refine WE_take 0 (v := ?_) rfl (by kernel_rfl) (fun _ _ _ h => h) (Or.inl ⟨by rfl, ?_⟩) (by assumption) ?_; rotate_left; (· intro w9 hSw; (try dsimp only at hSw); go_simp; try with_reducible rfl); (try simp only [Act.put, List.setIfInBounds_toArray, List.set_cons_zero, List.set_cons_succ])
  refine WE_take 1 (v := ?_) rfl (by kernel_rfl) (fun _ _ _ h => h) (Or.inl ⟨by rfl, ?_⟩) (by assumption) ?_; rotate_left; (· intro w9 hSw; (try dsimp only at hSw); go_simp; try with_reducible rfl); (try simp only [Act.put, List.setIfInBounds_toArray, List.set_cons_zero, List.set_cons_succ])
  refine WE_take 2 (v := ?_) rfl (by kernel_rfl) (fun _ _ _ h => h) (Or.inl ⟨by rfl, ?_⟩) (by assumption) ?_; rotate_left; (· intro w9 hSw; (try dsimp only at hSw); go_simp; try with_reducible rfl); (try simp only [Act.put, List.setIfInBounds_toArray, List.set_cons_zero, List.set_cons_succ])
  refine WE_take 3 (v := ?_) rfl (by kernel_rfl) (fun _ _ _ h => h) (Or.inl ⟨by rfl, ?_⟩) (by assumption) ?_; rotate_left; (· intro w9 hSw; (try dsimp only at hSw); go_simp; try with_reducible rfl); (try simp only [Act.put, List.setIfInBounds_toArray, List.set_cons_zero, List.set_cons_succ])
  refine WE_take 4 (v := ?_) rfl (by kernel_rfl) (fun _ _ _ h => h) (Or.inl ⟨by rfl, ?_⟩) (by assumption) ?_; rotate_left; (· intro w9 hSw; (try dsimp only at hSw); go_simp; try with_reducible rfl); (try simp only [Act.put, List.setIfInBounds_toArray, List.set_cons_zero, List.set_cons_succ])
  refine WE_take 5 (v := ?_) rfl (by kernel_rfl) (fun _ _ _ h => h) (Or.inl ⟨by rfl, ?_⟩) (by assumption) ?_; rotate_left; (· intro w9 hSw; (try dsimp only at hSw); go_simp; try with_reducible rfl); (try simp only [Act.put, List.setIfInBounds_toArray, List.set_cons_zero, List.set_cons_succ])
  refine WE_take 6 (v := ?_) rfl (by kernel_rfl) (fun _ _ _ h => h) (Or.inl ⟨by rfl, ?_⟩) (by assumption) ?_; rotate_left; (· intro w9 hSw; (try dsimp only at hSw); go_simp; try with_reducible rfl); (try simp only [Act.put, List.setIfInBounds_toArray, List.set_cons_zero, List.set_cons_succ])
  refine WE_take 7 (v := ?_) rfl (by kernel_rfl) (fun _ _ _ h => h) (Or.inl ⟨by rfl, ?_⟩) (by assumption) ?_; rotate_left; (· intro w9 hSw; (try dsimp only at hSw); go_simp; try with_reducible rfl); (try simp only [Act.put, List.setIfInBounds_toArray, List.set_cons_zero, List.set_cons_succ])
  refine WE_take 8 (v := ?_) rfl (by kernel_rfl) (fun _ _ _ h => h) (Or.inl ⟨by rfl, ?_⟩) (by assumption) ?_; rotate_left; (· intro w9 hSw; (try dsimp only at hSw); go_simp; try with_reducible rfl); (try simp only [Act.put, List.setIfInBounds_toArray, List.set_cons_zero, List.set_cons_succ])
  refine WE_take 9 (v := ?_) rfl (by kernel_rfl) (fun _ _ _ h => h) (Or.inl ⟨by rfl, ?_⟩) (by assumption) ?_; rotate_left; (· intro w9 hSw; (try dsimp only at hSw); go_simp; try with_reducible rfl); (try simp only [Act.put, List.setIfInBounds_toArray, List.set_cons_zero, List.set_cons_succ])
  refine WE_take 10 (v := ?_) rfl (by kernel_rfl) (fun _ _ _ h => h) (Or.inl ⟨by rfl, ?_⟩) (by assumption) ?_; rotate_left; (· intro w9 hSw; (try dsimp only at hSw); go_simp; try with_reducible rfl); (try simp only [Act.put, List.setIfInBounds_toArray, List.set_cons_zero, List.set_cons_succ])
  refine WE_take 11 (v := ?_) rfl (by kernel_rfl) (fun _ _ _ h => h) (Or.inl ⟨by rfl, ?_⟩) (by assumption) ?_; rotate_left; (· intro w9 hSw; (try dsimp only at hSw); go_simp; try with_reducible rfl); (try simp only [Act.put, List.setIfInBounds_toArray, List.set_cons_zero, List.set_cons_succ])
  first | (refine WE_take 12 (v := undef) rfl (by kernel_rfl) (fun _ _ _ h => h) (Or.inr ⟨by rfl, rfl⟩) (by assumption) ?_; (try simp only [Act.put, List.setIfInBounds_toArray, List.set_cons_zero, List.set_cons_succ])) | (refine WE_take 12 (v := ?_) rfl (by kernel_rfl) (fun _ _ _ h => h) (Or.inl ⟨by rfl, ?_⟩) (by assumption) ?_; rotate_left; (· intro w9 hSw; (try dsimp only at hSw); go_simp; try with_reducible rfl); (try simp only [Act.put, List.setIfInBounds_toArray, List.set_cons_zero, List.set_cons_succ]))
  first | (refine WE_take 13 (v := undef) rfl (by kernel_rfl) (fun _ _ _ h => h) (Or.inr ⟨by rfl, rfl⟩) (by assumption) ?_; (try simp only [Act.put, List.setIfInBounds_toArray, List.set_cons_zero, List.set_cons_succ])) | (refine WE_take 13 (v := ?_) rfl (by kernel_rfl) (fun _ _ _ h => h) (Or.inl ⟨by rfl, ?_⟩) (by assumption) ?_; rotate_left; (· intro w9 hSw; (try dsimp only at hSw); go_simp; try with_reducible rfl); (try simp only [Act.put, List.setIfInBounds_toArray, List.set_cons_zero, List.set_cons_succ]))
  first | (refine WE_take 14 (v := undef) rfl (by kernel_rfl) (fun _ _ _ h => h) (Or.inr ⟨by rfl, rfl⟩) (by assumption) ?_; (try simp only [Act.put, List.setIfInBounds_toArray, List.set_cons_zero, List.set_cons_succ])) | (refine WE_take 14 (v := ?_) rfl (by kernel_rfl) (fun _ _ _ h => h) (Or.inl ⟨by rfl, ?_⟩) (by assumption) ?_; rotate_left; (· intro w9 hSw; (try dsimp only at hSw); go_simp; try with_reducible rfl); (try simp only [Act.put, List.setIfInBounds_toArray, List.set_cons_zero, List.set_cons_succ]))
  first | (refine WE_take 15 (v := undef) rfl (by kernel_rfl) (fun _ _ _ h => h) (Or.inr ⟨by rfl, rfl⟩) (by assumption) ?_; (try simp only [Act.put, List.setIfInBounds_toArray, List.set_cons_zero, List.set_cons_succ])) | (refine WE_take 15 (v := ?_) rfl (by kernel_rfl) (fun _ _ _ h => h) (Or.inl ⟨by rfl, ?_⟩) (by assumption) ?_; rotate_left; (· intro w9 hSw; (try dsimp only at hSw); go_simp; try with_reducible rfl); (try simp only [Act.put, List.setIfInBounds_toArray, List.set_cons_zero, List.set_cons_succ]))
  first | (refine WE_take 16 (v := undef) rfl (by kernel_rfl) (fun _ _ _ h => h) (Or.inr ⟨by rfl, rfl⟩) (by assumption) ?_; (try simp only [Act.put, List.setIfInBounds_toArray, List.set_cons_zero, List.set_cons_succ])) | (refine WE_take 16 (v := ?_) rfl (by kernel_rfl) (fun _ _ _ h => h) (Or.inl ⟨by rfl, ?_⟩) (by assumption) ?_; rotate_left; (· intro w9 hSw; (try dsimp only at hSw); go_simp; try with_reducible rfl); (try simp only [Act.put, List.setIfInBounds_toArray, List.set_cons_zero, List.set_cons_succ]))
  first | (refine WE_take 17 (v := undef) rfl (by kernel_rfl) (fun _ _ _ h => h) (Or.inr ⟨by rfl, rfl⟩) (by assumption) ?_; (try simp only [Act.put, List.setIfInBounds_toArray, List.set_cons_zero, List.set_cons_succ])) | (refine WE_take 17 (v := ?_) rfl (by kernel_rfl) (fun _ _ _ h => h) (Or.inl ⟨by rfl, ?_⟩) (by assumption) ?_; rotate_left; (· intro w9 hSw; (try dsimp only at hSw); go_simp; try with_reducible rfl); (try simp only [Act.put, List.setIfInBounds_toArray, List.set_cons_zero, List.set_cons_succ]))
  first | (refine WE_take 18 (v := undef) rfl (by kernel_rfl) (fun _ _ _ h => h) (Or.inr ⟨by rfl, rfl⟩) (by assumption) ?_; (try simp only [Act.put, List.setIfInBounds_toArray, List.set_cons_zero, List.set_cons_succ])) | (refine WE_take 18 (v := ?_) rfl (by kernel_rfl) (fun _ _ _ h => h) (Or.inl ⟨by rfl, ?_⟩) (by assumption) ?_; rotate_left; (· intro w9 hSw; (try dsimp only at hSw); go_simp; try with_reducible rfl); (try simp only [Act.put, List.setIfInBounds_toArray, List.set_cons_zero, List.set_cons_succ]))
  first | (refine WE_take 19 (v := undef) rfl (by kernel_rfl) (fun _ _ _ h => h) (Or.inr ⟨by rfl, rfl⟩) (by assumption) ?_; (try simp only [Act.put, List.setIfInBounds_toArray, List.set_cons_zero, List.set_cons_succ])) | (refine WE_take 19 (v := ?_) rfl (by kernel_rfl) (fun _ _ _ h => h) (Or.inl ⟨by rfl, ?_⟩) (by assumption) ?_; rotate_left; (· intro w9 hSw; (try dsimp only at hSw); go_simp; try with_reducible rfl); (try simp only [Act.put, List.setIfInBounds_toArray, List.set_cons_zero, List.set_cons_succ]))
  first | (refine WE_take 20 (v := undef) rfl (by kernel_rfl) (fun _ _ _ h => h) (Or.inr ⟨by rfl, rfl⟩) (by assumption) ?_; (try simp only [Act.put, List.setIfInBounds_toArray, List.set_cons_zero, List.set_cons_succ])) | (refine WE_take 20 (v := ?_) rfl (by kernel_rfl) (fun _ _ _ h => h) (Or.inl ⟨by rfl, ?_⟩) (by assumption) ?_; rotate_left; (· intro w9 hSw; (try dsimp only at hSw); go_simp; try with_reducible rfl); (try simp only [Act.put, List.setIfInBounds_toArray, List.set_cons_zero, List.set_cons_succ]))
  first | (refine WE_take 21 (v := undef) rfl (by kernel_rfl) (fun _ _ _ h => h) (Or.inr ⟨by rfl, rfl⟩) (by assumption) ?_; (try simp only [Act.put, List.setIfInBounds_toArray, List.set_cons_zero, List.set_cons_succ])) | (refine WE_take 21 (v := ?_) rfl (by kernel_rfl) (fun _ _ _ h => h) (Or.inl ⟨by rfl, ?_⟩) (by assumption) ?_; rotate_left; (· intro w9 hSw; (try dsimp only at hSw); go_simp; try with_reducible rfl); (try simp only [Act.put, List.setIfInBounds_toArray, List.set_cons_zero, List.set_cons_succ]))
  refine WE_step 22 rfl (by kernel_rfl) (fun K hK => ?_)
  go_simp
  (first | (go_at_call 32; with_reducible refine (psame_eq E E' ne ce ce' ux _ (HX1.out.later hHeld.1.toBelow) (HX2.out.later hHeld.1.toBelow) hne).mono ?_; rintro e w3 ⟨rfl, hb3⟩) | (go_at_call 32; with_reducible refine (psame_eq T T' nt ct ct' uy _ (HY1.out.later hHeld.1.toBelow) (HY2.out.later hHeld.1.toBelow) hnt).mono ?_; rintro e w4 ⟨rfl, hb4⟩))
  (try go_wp2_with fail)
  refine hK.out _ _ ?_ (fun hHeld => ?_)
  · (repeat' first | (with_reducible assumption) | (with_reducible exact SX0.init _) | (with_reducible exact SX0.refl _) | (with_reducible refine SX0.alloc ?_ _) | (with_reducible refine SX0.call ?_ (by assumption)) | (with_reducible refine SX0.set ?_ _ _ _ ?_) | (with_reducible refine SX0.drew ?_) | (simp; done) | omega | (simp; omega))
  clear hK K
  try simp only [Act.put, List.setIfInBounds_toArray, List.set_cons_zero, List.set_cons_succ]
  first | (refine WE_take 23 (v := undef) rfl (by kernel_rfl) (fun _ _ _ h => h) (Or.inr ⟨by rfl, rfl⟩) (by assumption) ?_; (try simp only [Act.put, List.setIfInBounds_toArray, List.set_cons_zero, List.set_cons_succ])) | (refine WE_take 23 (v := ?_) rfl (by kernel_rfl) (fun _ _ _ h => h) (Or.inl ⟨by rfl, ?_⟩) (by assumption) ?_; rotate_left; (· intro w9 hSw; (try dsimp only at hSw); go_simp; try with_reducible rfl); (try simp only [Act.put, List.setIfInBounds_toArray, List.set_cons_zero, List.set_cons_succ]))
  refine WE_take 24 (v := ?_) rfl (by kernel_rfl) (fun _ _ _ h => h) (Or.inl ⟨by rfl, ?_⟩) (by assumption) ?_; rotate_left; (· intro w9 hSw; (try dsimp only at hSw); go_simp; try with_reducible rfl); (try simp only [Act.put, List.setIfInBounds_toArray, List.set_cons_zero, List.set_cons_succ])
  refine WE_take 25 (v := ?_) rfl (by kernel_rfl) (fun _ _ _ h => h) (Or.inl ⟨by rfl, ?_⟩) (by assumption) ?_; rotate_left; (· intro w9 hSw; (try dsimp only at hSw); go_simp; try with_reducible rfl); (try simp only [Act.put, List.setIfInBounds_toArray, List.set_cons_zero, List.set_cons_succ])
  first | (refine WE_take 26 (v := undef) rfl (by kernel_rfl) (fun _ _ _ h => h) (Or.inr ⟨by rfl, rfl⟩) (by assumption) ?_; (try simp only [Act.put, List.setIfInBounds_toArray, List.set_cons_zero, List.set_cons_succ])) | (refine WE_take 26 (v := ?_) rfl (by kernel_rfl) (fun _ _ _ h => h) (Or.inl ⟨by rfl, ?_⟩) (by assumption) ?_; rotate_left; (· intro w9 hSw; (try dsimp only at hSw); go_simp; try with_reducible rfl); (try simp only [Act.put, List.setIfInBounds_toArray, List.set_cons_zero, List.set_cons_succ]))
  first | (refine WE_take 27 (v := undef) rfl (by kernel_rfl) (fun _ _ _ h => h) (Or.inr ⟨by rfl, rfl⟩) (by assumption) ?_; (try simp only [Act.put, List.setIfInBounds_toArray, List.set_cons_zero, List.set_cons_succ])) | (refine WE_take 27 (v := ?_) rfl (by kernel_rfl) (fun _ _ _ h => h) (Or.inl ⟨by rfl, ?_⟩) (by assumption) ?_; rotate_left; (· intro w9 hSw; (try dsimp only at hSw); go_simp; try with_reducible rfl); (try simp only [Act.put, List.setIfInBounds_toArray, List.set_cons_zero, List.set_cons_succ]))
  first | (refine WE_take 28 (v := undef) rfl (by kernel_rfl) (fun _ _ _ h => h) (Or.inr ⟨by rfl, rfl⟩) (by assumption) ?_; (try simp only [Act.put, List.setIfInBounds_toArray, List.set_cons_zero, List.set_cons_succ])) | (refine WE_take 28 (v := ?_) rfl (by kernel_rfl) (fun _ _ _ h => h) (Or.inl ⟨by rfl, ?_⟩) (by assumption) ?_; rotate_left; (· intro w9 hSw; (try dsimp only at hSw); go_simp; try with_reducible rfl); (try simp only [Act.put, List.setIfInBounds_toArray, List.set_cons_zero, List.set_cons_succ]))
  first | (refine WE_take 29 (v := undef) rfl (by kernel_rfl) (fun _ _ _ h => h) (Or.inr ⟨by rfl, rfl⟩) (by assumption) ?_; (try simp only [Act.put, List.setIfInBounds_toArray, List.set_cons_zero, List.set_cons_succ])) | (refine WE_take 29 (v := ?_) rfl (by kernel_rfl) (fun _ _ _ h => h) (Or.inl ⟨by rfl, ?_⟩) (by assumption) ?_; rotate_left; (· intro w9 hSw; (try dsimp only at hSw); go_simp; try with_reducible rfl); (try simp only [Act.put, List.setIfInBounds_toArray, List.set_cons_zero, List.set_cons_succ]))
  first | (refine WE_take 30 (v := undef) rfl (by kernel_rfl) (fun _ _ _ h => h) (Or.inr ⟨by rfl, rfl⟩) (by assumption) ?_; (try simp only [Act.put, List.setIfInBounds_toArray, List.set_cons_zero, List.set_cons_succ])) | (refine WE_take 30 (v := ?_) rfl (by kernel_rfl) (fun _ _ _ h => h) (Or.inl ⟨by rfl, ?_⟩) (by assumption) ?_; rotate_left; (· intro w9 hSw; (try dsimp only at hSw); go_simp; try with_reducible rfl); (try simp only [Act.put, List.setIfInBounds_toArray, List.set_cons_zero, List.set_cons_succ]))
  first | (refine WE_take 31 (v := undef) rfl (by kernel_rfl) (fun _ _ _ h => h) (Or.inr ⟨by rfl, rfl⟩) (by assumption) ?_; (try simp only [Act.put, List.setIfInBounds_toArray, List.set_cons_zero, List.set_cons_succ])) | (refine WE_take 31 (v := ?_) rfl (by kernel_rfl) (fun _ _ _ h => h) (Or.inl ⟨by rfl, ?_⟩) (by assumption) ?_; rotate_left; (· intro w9 hSw; (try dsimp only at hSw); go_simp; try with_reducible rfl); (try simp only [Act.put, List.setIfInBounds_toArray, List.set_cons_zero, List.set_cons_succ]))
  first | (refine WE_take 32 (v := undef) rfl (by kernel_rfl) (fun _ _ _ h => h) (Or.inr ⟨by rfl, rfl⟩) (by assumption) ?_; (try simp only [Act.put, List.setIfInBounds_toArray, List.set_cons_zero, List.set_cons_succ])) | (refine WE_take 32 (v := ?_) rfl (by kernel_rfl) (fun _ _ _ h => h) (Or.inl ⟨by rfl, ?_⟩) (by assumption) ?_; rotate_left; (· intro w9 hSw; (try dsimp only at hSw); go_simp; try with_reducible rfl); (try simp only [Act.put, List.setIfInBounds_toArray, List.set_cons_zero, List.set_cons_succ]))
  first | (refine WE_take 33 (v := undef) rfl (by kernel_rfl) (fun _ _ _ h => h) (Or.inr ⟨by rfl, rfl⟩) (by assumption) ?_; (try simp only [Act.put, List.setIfInBounds_toArray, List.set_cons_zero, List.set_cons_succ])) | (refine WE_take 33 (v := ?_) rfl (by kernel_rfl) (fun _ _ _ h => h) (Or.inl ⟨by rfl, ?_⟩) (by assumption) ?_; rotate_left; (· intro w9 hSw; (try dsimp only at hSw); go_simp; try with_reducible rfl); (try simp only [Act.put, List.setIfInBounds_toArray, List.set_cons_zero, List.set_cons_succ]))
  first | (refine WE_take 34 (v := undef) rfl (by kernel_rfl) (fun _ _ _ h => h) (Or.inr ⟨by rfl, rfl⟩) (by assumption) ?_; (try simp only [Act.put, List.setIfInBounds_toArray, List.set_cons_zero, List.set_cons_succ])) | (refine WE_take 34 (v := ?_) rfl (by kernel_rfl) (fun _ _ _ h => h) (Or.inl ⟨by rfl, ?_⟩) (by assumption) ?_; rotate_left; (· intro w9 hSw; (try dsimp only at hSw); go_simp; try with_reducible rfl); (try simp only [Act.put, List.setIfInBounds_toArray, List.set_cons_zero, List.set_cons_succ]))
  first | (refine WE_take 35 (v := undef) rfl (by kernel_rfl) (fun _ _ _ h => h) (Or.inr ⟨by rfl, rfl⟩) (by assumption) ?_; (try simp only [Act.put, List.setIfInBounds_toArray, List.set_cons_zero, List.set_cons_succ])) | (refine WE_take 35 (v := ?_) rfl (by kernel_rfl) (fun _ _ _ h => h) (Or.inl ⟨by rfl, ?_⟩) (by assumption) ?_; rotate_left; (· intro w9 hSw; (try dsimp only at hSw); go_simp; try with_reducible rfl); (try simp only [Act.put, List.setIfInBounds_toArray, List.set_cons_zero, List.set_cons_succ]))
  refine WE_step 36 rfl (by kernel_rfl) (fun K hK => ?_)
  go_simp
  (first | (go_at_call 32; with_reducible refine (psame_eq E E' ne ce ce' ux _ (HX1.out.later hHeld.1.toBelow) (HX2.out.later hHeld.1.toBelow) hne).mono ?_; rintro e w3 ⟨rfl, hb3⟩) | (go_at_call 32; with_reducible refine (psame_eq T T' nt ct ct' uy _ (HY1.out.later hHeld.1.toBelow) (HY2.out.later hHeld.1.toBelow) hnt).mono ?_; rintro e w4 ⟨rfl, hb4⟩))
  (try go_wp2_with fail)
  refine hK.out _ _ ?_ (fun hHeld => ?_)
  · (repeat' first | (with_reducible assumption) | (with_reducible exact SX0.init _) | (with_reducible exact SX0.refl _) | (with_reducible refine SX0.alloc ?_ _) | (with_reducible refine SX0.call ?_ (by assumption)) | (with_reducible refine SX0.set ?_ _ _ _ ?_) | (with_reducible refine SX0.drew ?_) | (simp; done) | omega | (simp; omega))
  clear hK K
  try simp only [Act.put, List.setIfInBounds_toArray, List.set_cons_zero, List.set_cons_succ]
  first | (refine WE_take 37 (v := undef) rfl (by kernel_rfl) (fun _ _ _ h => h) (Or.inr ⟨by rfl, rfl⟩) (by assumption) ?_; (try simp only [Act.put, List.setIfInBounds_toArray, List.set_cons_zero, List.set_cons_succ])) | (refine WE_take 37 (v := ?_) rfl (by kernel_rfl) (fun _ _ _ h => h) (Or.inl ⟨by rfl, ?_⟩) (by assumption) ?_; rotate_left; (· intro w9 hSw; (try dsimp only at hSw); go_simp; try with_reducible rfl); (try simp only [Act.put, List.setIfInBounds_toArray, List.set_cons_zero, List.set_cons_succ]))
  refine WE_last rfl (by kernel_rfl) (fun K hK => ?_)
  go_simp
  refine hK.out _ _ ?_
  clear hK K
  have hk4 : Kept [] wr w4 := hHeld.1
  go_wp2_with fail
  exact ⟨⟨i + 1, by omega, by go_num, keptTrans hkr hk4⟩, by simp [intOf]; omega⟩
set_option maxRecDepth 100000 in
set_option maxHeartbeats 4000000 in
theorem short_any (A : Option Addr) (n c : Nat) (L : List Su) (w : World) (hS : SmW w A n L) (hn : n ≤ 9223372036854775807) :
    Calls Tryz.prog 10 #[.slice A n c] w fun e w' => (∃ s : Bool, e = .returned (.bool s)) ∧ Below w.heap.size w w' := by
  have HS := Lib.hid hS
  clear hS
  by_cases h20 : 20 < n
  case' pos =>
    have g1 : decide ((20 : Int) < (n : Int)) = true := by simp; omega
    by_cases h256 : n ≤ 256
    case pos =>
      have g2 : decide ((n : Int) ≤ 256) = true := by simp; omega
      clear h20 h256
      as_aux_lemma =>
        go_enter Tryz.func10, Tryz.ntmps10
        go_wp2_with fail
        go_ret
        exact ⟨⟨_, rfl⟩, Below.refl _ _⟩
    have g2 : decide ((n : Int) ≤ 256) = false := by simp; omega
    clear h20 h256
  case' neg =>
    have g1 : decide ((20 : Int) < (n : Int)) = false := by simp; omega
    clear h20
  all_goals
    go_enter Tryz.func10, Tryz.ntmps10
    go_wp2_with fail
    go_loopw [3] (fun s3 wr => ∃ i : Nat, i ≤ n ∧ s3 = .int .i64 i ∧ Kept [] w wr) (fun s3 _ => n - (intOf s3).toNat)
    case atStart => exact ⟨0, Nat.zero_le _, rfl, Kept.refl _ _⟩
    case round =>
    obtain ⟨i, hi, rfl, hkr⟩ := hrel
    by_cases hlt : i < n
    case neg =>
      obtain rfl : i = n := by omega
      as_aux_lemma =>
        go_wp2_with fail
        go_ret
        exact ⟨⟨_, rfl⟩, hkr.toBelow⟩
    obtain ⟨b1, o1, rfl, hl1, hc1⟩ := (HS.out.later hkr.toBelow).mem (by omega)
    obtain ⟨E, ne, ce, T, nt, ct, -, c1, c2, -, -⟩ := hc1 i hlt
    have hi9 : (i : Int) < (n : Int) := by omega
    clear hc1
    by_cases q1 : 100 < ne
    · have g3 : decide ((100 : Int) < (ne : Int)) = true := by simp; omega
      clear q1
      as_aux_lemma =>
        go_wp2_with fail
        go_ret
        exact ⟨⟨_, rfl⟩, hkr.toBelow⟩
    have g3 : decide ((100 : Int) < (ne : Int)) = false := by simp; omega
    by_cases q2 : 100 < nt
    · have g4 : decide ((100 : Int) < (nt : Int)) = true := by simp; omega
      clear q1 q2
      as_aux_lemma =>
        go_wp2_with fail
        go_ret
        exact ⟨⟨_, rfl⟩, hkr.toBelow⟩
    have g4 : decide ((100 : Int) < (nt : Int)) = false := by simp; omega
    clear q1 q2
    as_aux_lemma =>
      go_wp2_with fail
      exact ⟨⟨i + 1, by omega, by go_num, hkr⟩, by simp [intOf]; omega⟩
theorem txS_len {u : Su} (hf : 0 ≤ u.f ∧ u.f < 256) (hx : lsErr 1024 u.x = 0) (hy : lsErr 1024 u.y = 0) : (txS u).length ≤ 2000000 := by
  have h0 := flat_len (w := kwE) (F := 1024) (by omega) (by decide) (l := u.x) (fun p hp => ls_rng hx hp)
  have h1 := flat_len (w := kwT) (F := 1024) (by omega) (by decide) (l := u.y) (fun p hp => ls_rng hy hp)
  have h2 := (ls_ok.1 hx).1
  have h3 := (ls_ok.1 hy).1
  have h9 := itoa_len (n := u.f) (by omega) (by omega)
  have h4 : (ln1 kwF u.f).length ≤ 20 := by
    unfold ln1 kwF
    simp
    omega
  unfold txS
  rw [List.length_append, List.length_append]
  omega
theorem fn_rng {L : List Su} {i : Nat} (h : fnErr L i = 0) : 0 ≤ (gS L i).f ∧ (gS L i).f < 256 := by
  unfold fnErr at h
  split at h
  · cases h
  · omega
theorem txt_len {L : List Su} (h : sumErr 1024 L = 0) : ∀ i, i ≤ L.length → (txt (L.take i)).length ≤ i * 2000000
  | 0, _ => by simp [txt]
  | i + 1, hi => by
    have h1 := txt_len h i (by omega)
    have h2 := (sum_ok.1 h).2.2 i (by omega)
    have h3 := txS_len (fn_rng h2.1) h2.2.1 h2.2.2
    rw [txt_take (by omega), List.length_append]
    omega
set_option maxRecDepth 100000 in
set_option maxHeartbeats 8000000 in
theorem rtext_any (A : Option Addr) (n c : Nat) (L : List Su) (w : World) (hS : SmW w A n L) (hok : sumErr 1024 L = 0) :
    Calls Tryz.prog 45 #[.slice A n c] w fun e w' => e = .returned (.string ⟨(txt L).toArray⟩) ∧ Below w.heap.size w w' := by
  have HS := Lib.hid hS
  have HOK := Lib.hid (sum_ok.1 hok)
  have HTL := Lib.hid (txt_len hok)
  have HLN := Lib.hid hS.len
  have hn256 : n ≤ 256 := by have h1 := HOK.out.2.1; have h2 := HLN.out; omega
  clear hS hok
  go_enter Tryz.func45, Tryz.ntmps45
  go_wp2_with fail
  go_loopw [3, 4] (fun s3 s4 wr => ∃ i : Nat, i ≤ n ∧ s4 = .int .i64 i ∧ s3 = .string ⟨(txt (L.take i)).toArray⟩ ∧ Hid (Kept [] w wr)) (fun _ s4 _ => n - (intOf s4).toNat)
  case atStart => exact ⟨0, Nat.zero_le _, rfl, rfl, Lib.hid (Kept.refl _ _)⟩
  case round =>
  obtain ⟨i, hi, rfl, rfl, HKR⟩ := hrel
  by_cases hlt : i < n
  case neg =>
    obtain rfl : i = n := by omega
    have HTK : Hid (L.take i = L) := Lib.hid (List.take_of_length_le (by rw [HLN.out]; exact Nat.le_refl _))
    go_wp2_with fail
    go_ret
    exact ⟨by rw [HTK.out]; rfl, HKR.out.toBelow⟩
  obtain ⟨bL, oL, rfl, hl, hc⟩ := (HS.out.later HKR.out.toBelow).mem (by omega)
  obtain ⟨E, ne, ce, T, nt, ct, c0, c1, c2, hpx, hpy⟩ := hc i hlt
  have hok := HOK.out.2.2 i (by rw [HLN.out]; exact hlt)
  have HTX : Hid (txt (L.take (i + 1)) = txt (L.take i) ++ txS (gS L i)) := Lib.hid (txt_take (by rw [HLN.out]; exact hlt))
  have hfr := fn_rng hok.1
  obtain ⟨u, hu⟩ : ∃ u, gS L i = u := ⟨_, rfl⟩
  rw [hu] at c0 hpx hpy hok hfr HTX
  obtain ⟨f, ef⟩ := Int.eq_ofNat_of_zero_le hfr.1
  rw [ef] at c0
  have HEF := Lib.hid ef
  obtain ⟨l, hll⟩ : ∃ l, txt (L.take i) = l := ⟨_, rfl⟩
  have HLL := Lib.hid hll
  have hlb : l.length ≤ 512000000 := by
    have h1 := HTL.out i (by rw [HLN.out]; omega)
    rw [hll] at h1
    omega
  have hdb : (Lib.decDigits f).length ≤ 9 := by
    have h1 := itoa_len (n := (f : Int)) (by omega) (by omega)
    rw [itoa_nat] at h1
    exact h1
  rw [hll]
  have hc1 : ¬ (9223372036854775807 < l.length + 5) := by omega
  have hc2 : ¬ (9223372036854775807 < l.length + 5 + (Lib.decDigits f).length) := by omega
  have hc3 : ¬ (9223372036854775807 < l.length + 5 + (Lib.decDigits f).length + 1) := by omega
  have hi9 : (i : Int) < (n : Int) := by omega
  have HPX := Lib.hid hpx
  have HPY := Lib.hid hpy
  have HCK := Lib.hid hok
  have hf9 : f ≤ 9223372036854775807 := by omega
  clear hc hpx hpy hok hu hll ef hfr
  -- k5
  go_upto_region 6 with (go_at_call 74; refine (rdigits_any f _ hf9).mono ?_; rintro e w2 ⟨rfl, hb2⟩)
  -- k6
  have HK2 : Hid (Kept [] w w2) := Lib.hid (HKR.out.call hb2)
  have hk2 : Kept [] wr w2 := (Kept.refl _ _).call hb2
  have hlr := hl
  have HC1 := Lib.hid c1
  have HC2 := Lib.hid c2
  have HS0 : Hid ((⟨l.toArray⟩ : ByteArray) ++ ⟨#[102, 117, 110, 99, 32]⟩ ++ ⟨(Lib.decDigits f).toArray⟩ ++ ⟨#[10]⟩ = ⟨(l ++ exS u 0).toArray⟩) := Lib.hid (by
    rw [show (⟨#[102, 117, 110, 99, 32]⟩ : ByteArray) = ⟨([102, 117, 110, 99, 32] : List UInt8).toArray⟩ from rfl, show (⟨#[10]⟩ : ByteArray) = ⟨([10] : List UInt8).toArray⟩ from rfl, bs_app, bs_app, bs_app]
    congr 2
    unfold exS ln1 kwF
    rw [HEF.out, itoa_nat]
    simp)
  rw [HS0.out]
  have HB2C : Hid (∀ wq, Kept [] w wq → True) := Lib.hid (fun _ _ => trivial)
  clear c0 c1 c2 hc1 hc2 hc3
  go_wp2_with fail
  go_loopw [3, 5] (fun s3 s wq => ∃ j : Nat, j ≤ ne ∧ s = .int .i64 j ∧ s3 = .string ⟨(l ++ exS u j).toArray⟩ ∧ Hid (Kept [] wr wq)) (fun _ s _ => ne - (intOf s).toNat)
  case atStart => exact ⟨0, Nat.zero_le _, rfl, rfl, Lib.hid hk2⟩
  case round =>
  rename World => wq
  obtain ⟨j, hj, rfl, rfl, HKQ⟩ := hrel
  have hlq : bL < wq.heap.size := Nat.lt_of_lt_of_le hl HKQ.out.size
  have k1 := (HKQ.out.cell bL _ hl (by simp)).trans HC1.out
  by_cases hlj : j < ne
  case pos =>
    as_aux_lemma =>
      obtain ⟨bP, oP, rfl, hlP, hcP⟩ := (HPX.out.later HKQ.out.toBelow).2 (by omega)
      obtain ⟨p1, p2⟩ := hcP j hlj
      have hpr := ls_rng HCK.out.2.1 (gp_mem (l := u.x) (i := j) (by rw [HPX.out.1]; exact hlj))
      obtain ⟨a, ea⟩ := Int.eq_ofNat_of_zero_le hpr.1.1
      obtain ⟨b, eb⟩ := Int.eq_ofNat_of_zero_le hpr.2.1
      rw [ea] at p1
      rw [eb] at p2
      obtain ⟨q, hq⟩ : ∃ q, l ++ exS u j = q := ⟨_, rfl⟩
      have HQ := Lib.hid hq
      have hql : q.length ≤ 514000000 := by
        have h1 := flat_len (w := kwE) (F := 1024) (by omega) (by decide) (l := u.x.take j) (fun p hp => ls_rng HCK.out.2.1 (List.mem_of_mem_take hp))
        have h2 := List.length_take_le' j u.x
        have h3 := (ls_ok.1 HCK.out.2.1).1
        have h5 : (ln1 kwF u.f).length ≤ 20 := by
          rw [HEF.out]
          unfold ln1 kwF
          rw [itoa_nat]
          simp
          omega
        rw [← hq]
        unfold exS
        rw [List.length_append, List.length_append]
        omega
      have hda : (Lib.decDigits a).length ≤ 9 := by
        have h1 := itoa_len (n := (a : Int)) (by omega) (by omega)
        rw [itoa_nat] at h1
        exact h1
      have hdb' : (Lib.decDigits b).length ≤ 9 := by
        have h1 := itoa_len (n := (b : Int)) (by omega) (by omega)
        rw [itoa_nat] at h1
        exact h1
      rw [hq]
      have hc1 : ¬ (9223372036854775807 < q.length + 5) := by omega
      have hc2 : ¬ (9223372036854775807 < q.length + 5 + (Lib.decDigits a).length) := by omega
      have hc3 : ¬ (9223372036854775807 < q.length + 5 + (Lib.decDigits a).length + 1) := by omega
      have hc4 : ¬ (9223372036854775807 < q.length + 5 + (Lib.decDigits a).length + 1 + (Lib.decDigits b).length) := by omega
      have hc5 : ¬ (9223372036854775807 < q.length + 5 + (Lib.decDigits a).length + 1 + (Lib.decDigits b).length + 1) := by omega
      have ha9 : a ≤ 9223372036854775807 := by omega
      have hb9 : b ≤ 9223372036854775807 := by omega
      have hj9 : (j : Int) < (ne : Int) := by omega
      have hm8 : ne ≤ 8192 := by have h1 := HPX.out.1; have h2 := (ls_ok.1 HCK.out.2.1).1; omega
      have HSN : Hid ((⟨q.toArray⟩ : ByteArray) ++ ⟨#[101, 120, 105, 116, 32]⟩ ++ ⟨(Lib.decDigits a).toArray⟩ ++ ⟨#[32]⟩ ++ ⟨(Lib.decDigits b).toArray⟩ ++ ⟨#[10]⟩ = ⟨(l ++ exS u (j + 1)).toArray⟩) := Lib.hid (by
        rw [show (⟨#[101, 120, 105, 116, 32]⟩ : ByteArray) = ⟨([101, 120, 105, 116, 32] : List UInt8).toArray⟩ from rfl, show (⟨#[32]⟩ : ByteArray) = ⟨([32] : List UInt8).toArray⟩ from rfl, show (⟨#[10]⟩ : ByteArray) = ⟨([10] : List UInt8).toArray⟩ from rfl, bs_app, bs_app, bs_app, bs_app, bs_app]
        congr 2
        rw [← hq]
        unfold exS
        rw [flat_take (by rw [HPX.out.1]; exact hlj)]
        unfold ln2 kwE
        rw [ea, eb, itoa_nat, itoa_nat]
        simp)
      clear hcP hq ea eb hpr
      go_upto_region 9 with fail
      refine wp_region_E 26 (fun w' => SX0 wq w') (by kernel_rfl) (by (repeat' first | (with_reducible assumption) | (with_reducible exact SX0.init _) | (with_reducible exact SX0.refl _) | (with_reducible refine SX0.alloc ?_ _) | (with_reducible refine SX0.call ?_ (by assumption)) | (with_reducible refine SX0.set ?_ _ _ _ ?_) | (with_reducible refine SX0.drew ?_) | (simp; done) | omega | (simp; omega))) (fun hHeld => ?_)
      refine WE_take 0 (v := ?_) rfl (by kernel_rfl) (fun _ _ _ h => h) (Or.inl ⟨by rfl, ?_⟩) (by assumption) ?_; rotate_left; (· intro w9 hSw; (try dsimp only at hSw); go_simp; try with_reducible rfl); (try simp only [Act.put, List.setIfInBounds_toArray, List.set_cons_zero, List.set_cons_succ])
      refine WE_take 1 (v := ?_) rfl (by kernel_rfl) (fun _ _ _ h => h) (Or.inl ⟨by rfl, ?_⟩) (by assumption) ?_; rotate_left; (· intro w9 hSw; (try dsimp only at hSw); go_simp; try with_reducible rfl); (try simp only [Act.put, List.setIfInBounds_toArray, List.set_cons_zero, List.set_cons_succ])
      refine WE_take 2 (v := ?_) rfl (by kernel_rfl) (fun _ _ _ h => h) (Or.inl ⟨by rfl, ?_⟩) (by assumption) ?_; rotate_left; (· intro w9 hSw; (try dsimp only at hSw); go_simp; try with_reducible rfl); (try simp only [Act.put, List.setIfInBounds_toArray, List.set_cons_zero, List.set_cons_succ])
      refine WE_take 3 (v := ?_) rfl (by kernel_rfl) (fun _ _ _ h => h) (Or.inl ⟨by rfl, ?_⟩) (by assumption) ?_; rotate_left; (· intro w9 hSw; (try dsimp only at hSw); go_simp; try with_reducible rfl); (try simp only [Act.put, List.setIfInBounds_toArray, List.set_cons_zero, List.set_cons_succ])
      refine WE_take 4 (v := ?_) rfl (by kernel_rfl) (fun _ _ _ h => h) (Or.inl ⟨by rfl, ?_⟩) (by assumption) ?_; rotate_left; (· intro w9 hSw; (try dsimp only at hSw); go_simp; try with_reducible rfl); (try simp only [Act.put, List.setIfInBounds_toArray, List.set_cons_zero, List.set_cons_succ])
      refine WE_take 5 (v := ?_) rfl (by kernel_rfl) (fun _ _ _ h => h) (Or.inl ⟨by rfl, ?_⟩) (by assumption) ?_; rotate_left; (· intro w9 hSw; (try dsimp only at hSw); go_simp; try with_reducible rfl); (try simp only [Act.put, List.setIfInBounds_toArray, List.set_cons_zero, List.set_cons_succ])
      refine WE_take 6 (v := ?_) rfl (by kernel_rfl) (fun _ _ _ h => h) (Or.inl ⟨by rfl, ?_⟩) (by assumption) ?_; rotate_left; (· intro w9 hSw; (try dsimp only at hSw); go_simp; try with_reducible rfl); (try simp only [Act.put, List.setIfInBounds_toArray, List.set_cons_zero, List.set_cons_succ])
      refine WE_take 7 (v := ?_) rfl (by kernel_rfl) (fun _ _ _ h => h) (Or.inl ⟨by rfl, ?_⟩) (by assumption) ?_; rotate_left; (· intro w9 hSw; (try dsimp only at hSw); go_simp; try with_reducible rfl); (try simp only [Act.put, List.setIfInBounds_toArray, List.set_cons_zero, List.set_cons_succ])
      refine WE_take 8 (v := ?_) rfl (by kernel_rfl) (fun _ _ _ h => h) (Or.inl ⟨by rfl, ?_⟩) (by assumption) ?_; rotate_left; (· intro w9 hSw; (try dsimp only at hSw); go_simp; try with_reducible rfl); (try simp only [Act.put, List.setIfInBounds_toArray, List.set_cons_zero, List.set_cons_succ])
      refine WE_take 9 (v := ?_) rfl (by kernel_rfl) (fun _ _ _ h => h) (Or.inl ⟨by rfl, ?_⟩) (by assumption) ?_; rotate_left; (· intro w9 hSw; (try dsimp only at hSw); go_simp; try with_reducible rfl); (try simp only [Act.put, List.setIfInBounds_toArray, List.set_cons_zero, List.set_cons_succ])
      refine WE_take 10 (v := ?_) rfl (by kernel_rfl) (fun _ _ _ h => h) (Or.inl ⟨by rfl, ?_⟩) (by assumption) ?_; rotate_left; (· intro w9 hSw; (try dsimp only at hSw); go_simp; try with_reducible rfl); (try simp only [Act.put, List.setIfInBounds_toArray, List.set_cons_zero, List.set_cons_succ])
      refine WE_take 14 (v := ?_) rfl (by kernel_rfl) (fun _ _ _ h => h) (Or.inl ⟨by rfl, ?_⟩) (by assumption) ?_; rotate_left; (· intro w9 hSw; (try dsimp only at hSw); go_simp; try with_reducible rfl); (try simp only [Act.put, List.setIfInBounds_toArray, List.set_cons_zero, List.set_cons_succ])
      refine WE_take 15 (v := ?_) rfl (by kernel_rfl) (fun _ _ _ h => h) (Or.inl ⟨by rfl, ?_⟩) (by assumption) ?_; rotate_left; (· intro w9 hSw; (try dsimp only at hSw); go_simp; try with_reducible rfl); (try simp only [Act.put, List.setIfInBounds_toArray, List.set_cons_zero, List.set_cons_succ])
      refine WE_take 16 (v := ?_) rfl (by kernel_rfl) (fun _ _ _ h => h) (Or.inl ⟨by rfl, ?_⟩) (by assumption) ?_; rotate_left; (· intro w9 hSw; (try dsimp only at hSw); go_simp; try with_reducible rfl); (try simp only [Act.put, List.setIfInBounds_toArray, List.set_cons_zero, List.set_cons_succ])
      refine WE_take 17 (v := ?_) rfl (by kernel_rfl) (fun _ _ _ h => h) (Or.inl ⟨by rfl, ?_⟩) (by assumption) ?_; rotate_left; (· intro w9 hSw; (try dsimp only at hSw); go_simp; try with_reducible rfl); (try simp only [Act.put, List.setIfInBounds_toArray, List.set_cons_zero, List.set_cons_succ])
      refine WE_take 18 (v := ?_) rfl (by kernel_rfl) (fun _ _ _ h => h) (Or.inl ⟨by rfl, ?_⟩) (by assumption) ?_; rotate_left; (· intro w9 hSw; (try dsimp only at hSw); go_simp; try with_reducible rfl); (try simp only [Act.put, List.setIfInBounds_toArray, List.set_cons_zero, List.set_cons_succ])
      refine WE_take 19 (v := ?_) rfl (by kernel_rfl) (fun _ _ _ h => h) (Or.inl ⟨by rfl, ?_⟩) (by assumption) ?_; rotate_left; (· intro w9 hSw; (try dsimp only at hSw); go_simp; try with_reducible rfl); (try simp only [Act.put, List.setIfInBounds_toArray, List.set_cons_zero, List.set_cons_succ])
      refine WE_take 20 (v := ?_) rfl (by kernel_rfl) (fun _ _ _ h => h) (Or.inl ⟨by rfl, ?_⟩) (by assumption) ?_; rotate_left; (· intro w9 hSw; (try dsimp only at hSw); go_simp; try with_reducible rfl); (try simp only [Act.put, List.setIfInBounds_toArray, List.set_cons_zero, List.set_cons_succ])
      refine WE_take 21 (v := ?_) rfl (by kernel_rfl) (fun _ _ _ h => h) (Or.inl ⟨by rfl, ?_⟩) (by assumption) ?_; rotate_left; (· intro w9 hSw; (try dsimp only at hSw); go_simp; try with_reducible rfl); (try simp only [Act.put, List.setIfInBounds_toArray, List.set_cons_zero, List.set_cons_succ])
      refine WE_take 22 (v := ?_) rfl (by kernel_rfl) (fun _ _ _ h => h) (Or.inl ⟨by rfl, ?_⟩) (by assumption) ?_; rotate_left; (· intro w9 hSw; (try dsimp only at hSw); go_simp; try with_reducible rfl); (try simp only [Act.put, List.setIfInBounds_toArray, List.set_cons_zero, List.set_cons_succ])
      refine WE_step 11 rfl (by kernel_rfl) (fun K hK => ?_)
      go_simp
      (first | (go_at_call 74; with_reducible refine (rdigits_any a _ ha9).mono ?_; rintro e w4 ⟨rfl, hb4⟩) | (go_at_call 74; with_reducible refine (rdigits_any b _ hb9).mono ?_; rintro e w5 ⟨rfl, hb5⟩))
      (try go_wp2_with fail)
      refine hK.out _ _ ?_ (fun hHeld => ?_)
      · (repeat' first | (with_reducible assumption) | (with_reducible exact SX0.init _) | (with_reducible exact SX0.refl _) | (with_reducible refine SX0.alloc ?_ _) | (with_reducible refine SX0.call ?_ (by assumption)) | (with_reducible refine SX0.set ?_ _ _ _ ?_) | (with_reducible refine SX0.drew ?_) | (simp; done) | omega | (simp; omega))
      clear hK K
      try simp only [Act.put, List.setIfInBounds_toArray, List.set_cons_zero, List.set_cons_succ]
      refine WE_take 12 (v := ?_) rfl (by kernel_rfl) (fun _ _ _ h => h) (Or.inl ⟨by rfl, ?_⟩) (by assumption) ?_; rotate_left; (· intro w9 hSw; (try dsimp only at hSw); go_simp; try with_reducible rfl); (try simp only [Act.put, List.setIfInBounds_toArray, List.set_cons_zero, List.set_cons_succ])
      refine WE_take 13 (v := ?_) rfl (by kernel_rfl) (fun _ _ _ h => h) (Or.inl ⟨by rfl, ?_⟩) (by assumption) ?_; rotate_left; (· intro w9 hSw; (try dsimp only at hSw); go_simp; try with_reducible rfl); (try simp only [Act.put, List.setIfInBounds_toArray, List.set_cons_zero, List.set_cons_succ])
      refine WE_step 23 rfl (by kernel_rfl) (fun K hK => ?_)
      go_simp
      (first | (go_at_call 74; with_reducible refine (rdigits_any a _ ha9).mono ?_; rintro e w4 ⟨rfl, hb4⟩) | (go_at_call 74; with_reducible refine (rdigits_any b _ hb9).mono ?_; rintro e w5 ⟨rfl, hb5⟩))
      (try go_wp2_with fail)
      refine hK.out _ _ ?_ (fun hHeld => ?_)
      · (repeat' first | (with_reducible assumption) | (with_reducible exact SX0.init _) | (with_reducible exact SX0.refl _) | (with_reducible refine SX0.alloc ?_ _) | (with_reducible refine SX0.call ?_ (by assumption)) | (with_reducible refine SX0.set ?_ _ _ _ ?_) | (with_reducible refine SX0.drew ?_) | (simp; done) | omega | (simp; omega))
      clear hK K
      try simp only [Act.put, List.setIfInBounds_toArray, List.set_cons_zero, List.set_cons_succ]
      refine WE_take 24 (v := ?_) rfl (by kernel_rfl) (fun _ _ _ h => h) (Or.inl ⟨by rfl, ?_⟩) (by assumption) ?_; rotate_left; (· intro w9 hSw; (try dsimp only at hSw); go_simp; try with_reducible rfl); (try simp only [Act.put, List.setIfInBounds_toArray, List.set_cons_zero, List.set_cons_succ])
      refine WE_take 25 (v := ?_) rfl (by kernel_rfl) (fun _ _ _ h => h) (Or.inl ⟨by rfl, ?_⟩) (by assumption) ?_; rotate_left; (· intro w9 hSw; (try dsimp only at hSw); go_simp; try with_reducible rfl); (try simp only [Act.put, List.setIfInBounds_toArray, List.set_cons_zero, List.set_cons_succ])
      refine WE_last rfl (by kernel_rfl) (fun K hK => ?_)
      go_simp
      refine hK.out _ _ ?_
      clear hK K
      rw [HSN.out]
      have hk9 : Kept [] wq w5 := hHeld.1
      go_wp2_with fail
      exact ⟨⟨j + 1, by omega, by go_num, rfl, Lib.hid (HKQ.out.next hk9 (by simp))⟩, by simp [intOf]; omega⟩
  obtain rfl : j = ne := by omega
  have HE1 : Hid (l ++ exS u j = l ++ thS u 0) := by
    show _ = _
    have e9 : u.x.take j = u.x := List.take_of_length_le (by rw [HPX.out.1]; exact Nat.le_refl _)
    unfold exS thS
    rw [e9]
    simp
  rw [HE1.out]
  have HKM := HKQ
  have k1' := k1
  clear hlj
  go_upto_region 10 with fail
  clear k1 k1'
  go_wp2_with fail
  go_loopw [3, 6] (fun s3 s wq => ∃ j : Nat, j ≤ nt ∧ s = .int .i64 j ∧ s3 = .string ⟨(l ++ thS u j).toArray⟩ ∧ Hid (Kept [] wr wq)) (fun _ s _ => nt - (intOf s).toNat)
  case atStart => exact ⟨0, Nat.zero_le _, rfl, rfl, HKM⟩
  case round =>
  rename World => wq
  obtain ⟨j, hj, rfl, rfl, HKQ⟩ := hrel
  have hlq : bL < wq.heap.size := Nat.lt_of_lt_of_le hl HKQ.out.size
  have k1 := (HKQ.out.cell bL _ hl (by simp)).trans HC2.out
  by_cases hlj : j < nt
  case pos =>
    as_aux_lemma =>
      obtain ⟨bP, oP, rfl, hlP, hcP⟩ := (HPY.out.later HKQ.out.toBelow).2 (by omega)
      obtain ⟨p1, p2⟩ := hcP j hlj
      have hpr := ls_rng HCK.out.2.2 (gp_mem (l := u.y) (i := j) (by rw [HPY.out.1]; exact hlj))
      obtain ⟨a, ea⟩ := Int.eq_ofNat_of_zero_le hpr.1.1
      obtain ⟨b, eb⟩ := Int.eq_ofNat_of_zero_le hpr.2.1
      rw [ea] at p1
      rw [eb] at p2
      obtain ⟨q, hq⟩ : ∃ q, l ++ thS u j = q := ⟨_, rfl⟩
      have HQ := Lib.hid hq
      have hql : q.length ≤ 516000000 := by
        have h0 := flat_len (w := kwE) (F := 1024) (by omega) (by decide) (l := u.x) (fun p hp => ls_rng HCK.out.2.1 hp)
        have h6 := (ls_ok.1 HCK.out.2.1).1
        have h1 := flat_len (w := kwT) (F := 1024) (by omega) (by decide) (l := u.y.take j) (fun p hp => ls_rng HCK.out.2.2 (List.mem_of_mem_take hp))
        have h2 := List.length_take_le' j u.y
        have h3 := (ls_ok.1 HCK.out.2.2).1
        have h5 : (ln1 kwF u.f).length ≤ 20 := by
          rw [HEF.out]
          unfold ln1 kwF
          rw [itoa_nat]
          simp
          omega
        rw [← hq]
        unfold thS
        rw [List.length_append, List.length_append, List.length_append]
        omega
      have hda : (Lib.decDigits a).length ≤ 9 := by
        have h1 := itoa_len (n := (a : Int)) (by omega) (by omega)
        rw [itoa_nat] at h1
        exact h1
      have hdb' : (Lib.decDigits b).length ≤ 9 := by
        have h1 := itoa_len (n := (b : Int)) (by omega) (by omega)
        rw [itoa_nat] at h1
        exact h1
      rw [hq]
      have hc1 : ¬ (9223372036854775807 < q.length + 6) := by omega
      have hc2 : ¬ (9223372036854775807 < q.length + 6 + (Lib.decDigits a).length) := by omega
      have hc3 : ¬ (9223372036854775807 < q.length + 6 + (Lib.decDigits a).length + 1) := by omega
      have hc4 : ¬ (9223372036854775807 < q.length + 6 + (Lib.decDigits a).length + 1 + (Lib.decDigits b).length) := by omega
      have hc5 : ¬ (9223372036854775807 < q.length + 6 + (Lib.decDigits a).length + 1 + (Lib.decDigits b).length + 1) := by omega
      have ha9 : a ≤ 9223372036854775807 := by omega
      have hb9 : b ≤ 9223372036854775807 := by omega
      have hj9 : (j : Int) < (nt : Int) := by omega
      have hm8 : nt ≤ 8192 := by have h1 := HPY.out.1; have h2 := (ls_ok.1 HCK.out.2.2).1; omega
      have HSN : Hid ((⟨q.toArray⟩ : ByteArray) ++ ⟨#[116, 104, 114, 111, 119, 32]⟩ ++ ⟨(Lib.decDigits a).toArray⟩ ++ ⟨#[32]⟩ ++ ⟨(Lib.decDigits b).toArray⟩ ++ ⟨#[10]⟩ = ⟨(l ++ thS u (j + 1)).toArray⟩) := Lib.hid (by
        rw [show (⟨#[116, 104, 114, 111, 119, 32]⟩ : ByteArray) = ⟨([116, 104, 114, 111, 119, 32] : List UInt8).toArray⟩ from rfl, show (⟨#[32]⟩ : ByteArray) = ⟨([32] : List UInt8).toArray⟩ from rfl, show (⟨#[10]⟩ : ByteArray) = ⟨([10] : List UInt8).toArray⟩ from rfl, bs_app, bs_app, bs_app, bs_app, bs_app]
        congr 2
        rw [← hq]
        unfold thS
        rw [flat_take (by rw [HPY.out.1]; exact hlj)]
        unfold ln2 kwT
        rw [ea, eb, itoa_nat, itoa_nat]
        simp)
      clear hcP hq ea eb hpr
      go_upto_region 13 with fail
      refine wp_region_E 26 (fun w' => SX0 wq w') (by kernel_rfl) (by (repeat' first | (with_reducible assumption) | (with_reducible exact SX0.init _) | (with_reducible exact SX0.refl _) | (with_reducible refine SX0.alloc ?_ _) | (with_reducible refine SX0.call ?_ (by assumption)) | (with_reducible refine SX0.set ?_ _ _ _ ?_) | (with_reducible refine SX0.drew ?_) | (simp; done) | omega | (simp; omega))) (fun hHeld => ?_)
      refine WE_take 0 (v := ?_) rfl (by kernel_rfl) (fun _ _ _ h => h) (Or.inl ⟨by rfl, ?_⟩) (by assumption) ?_; rotate_left; (· intro w9 hSw; (try dsimp only at hSw); go_simp; try with_reducible rfl); (try simp only [Act.put, List.setIfInBounds_toArray, List.set_cons_zero, List.set_cons_succ])
      refine WE_take 1 (v := ?_) rfl (by kernel_rfl) (fun _ _ _ h => h) (Or.inl ⟨by rfl, ?_⟩) (by assumption) ?_; rotate_left; (· intro w9 hSw; (try dsimp only at hSw); go_simp; try with_reducible rfl); (try simp only [Act.put, List.setIfInBounds_toArray, List.set_cons_zero, List.set_cons_succ])
      refine WE_take 2 (v := ?_) rfl (by kernel_rfl) (fun _ _ _ h => h) (Or.inl ⟨by rfl, ?_⟩) (by assumption) ?_; rotate_left; (· intro w9 hSw; (try dsimp only at hSw); go_simp; try with_reducible rfl); (try simp only [Act.put, List.setIfInBounds_toArray, List.set_cons_zero, List.set_cons_succ])
      refine WE_take 3 (v := ?_) rfl (by kernel_rfl) (fun _ _ _ h => h) (Or.inl ⟨by rfl, ?_⟩) (by assumption) ?_; rotate_left; (· intro w9 hSw; (try dsimp only at hSw); go_simp; try with_reducible rfl); (try simp only [Act.put, List.setIfInBounds_toArray, List.set_cons_zero, List.set_cons_succ])
      refine WE_take 4 (v := ?_) rfl (by kernel_rfl) (fun _ _ _ h => h) (Or.inl ⟨by rfl, ?_⟩) (by assumption) ?_; rotate_left; (· intro w9 hSw; (try dsimp only at hSw); go_simp; try with_reducible rfl); (try simp only [Act.put, List.setIfInBounds_toArray, List.set_cons_zero, List.set_cons_succ])
      refine WE_take 5 (v := ?_) rfl (by kernel_rfl) (fun _ _ _ h => h) (Or.inl ⟨by rfl, ?_⟩) (by assumption) ?_; rotate_left; (· intro w9 hSw; (try dsimp only at hSw); go_simp; try with_reducible rfl); (try simp only [Act.put, List.setIfInBounds_toArray, List.set_cons_zero, List.set_cons_succ])
      refine WE_take 6 (v := ?_) rfl (by kernel_rfl) (fun _ _ _ h => h) (Or.inl ⟨by rfl, ?_⟩) (by assumption) ?_; rotate_left; (· intro w9 hSw; (try dsimp only at hSw); go_simp; try with_reducible rfl); (try simp only [Act.put, List.setIfInBounds_toArray, List.set_cons_zero, List.set_cons_succ])
      refine WE_take 7 (v := ?_) rfl (by kernel_rfl) (fun _ _ _ h => h) (Or.inl ⟨by rfl, ?_⟩) (by assumption) ?_; rotate_left; (· intro w9 hSw; (try dsimp only at hSw); go_simp; try with_reducible rfl); (try simp only [Act.put, List.setIfInBounds_toArray, List.set_cons_zero, List.set_cons_succ])
      refine WE_take 8 (v := ?_) rfl (by kernel_rfl) (fun _ _ _ h => h) (Or.inl ⟨by rfl, ?_⟩) (by assumption) ?_; rotate_left; (· intro w9 hSw; (try dsimp only at hSw); go_simp; try with_reducible rfl); (try simp only [Act.put, List.setIfInBounds_toArray, List.set_cons_zero, List.set_cons_succ])
      refine WE_take 9 (v := ?_) rfl (by kernel_rfl) (fun _ _ _ h => h) (Or.inl ⟨by rfl, ?_⟩) (by assumption) ?_; rotate_left; (· intro w9 hSw; (try dsimp only at hSw); go_simp; try with_reducible rfl); (try simp only [Act.put, List.setIfInBounds_toArray, List.set_cons_zero, List.set_cons_succ])
      refine WE_take 10 (v := ?_) rfl (by kernel_rfl) (fun _ _ _ h => h) (Or.inl ⟨by rfl, ?_⟩) (by assumption) ?_; rotate_left; (· intro w9 hSw; (try dsimp only at hSw); go_simp; try with_reducible rfl); (try simp only [Act.put, List.setIfInBounds_toArray, List.set_cons_zero, List.set_cons_succ])
      refine WE_take 14 (v := ?_) rfl (by kernel_rfl) (fun _ _ _ h => h) (Or.inl ⟨by rfl, ?_⟩) (by assumption) ?_; rotate_left; (· intro w9 hSw; (try dsimp only at hSw); go_simp; try with_reducible rfl); (try simp only [Act.put, List.setIfInBounds_toArray, List.set_cons_zero, List.set_cons_succ])
      refine WE_take 15 (v := ?_) rfl (by kernel_rfl) (fun _ _ _ h => h) (Or.inl ⟨by rfl, ?_⟩) (by assumption) ?_; rotate_left; (· intro w9 hSw; (try dsimp only at hSw); go_simp; try with_reducible rfl); (try simp only [Act.put, List.setIfInBounds_toArray, List.set_cons_zero, List.set_cons_succ])
      refine WE_take 16 (v := ?_) rfl (by kernel_rfl) (fun _ _ _ h => h) (Or.inl ⟨by rfl, ?_⟩) (by assumption) ?_; rotate_left; (· intro w9 hSw; (try dsimp only at hSw); go_simp; try with_reducible rfl); (try simp only [Act.put, List.setIfInBounds_toArray, List.set_cons_zero, List.set_cons_succ])
      refine WE_take 17 (v := ?_) rfl (by kernel_rfl) (fun _ _ _ h => h) (Or.inl ⟨by rfl, ?_⟩) (by assumption) ?_; rotate_left; (· intro w9 hSw; (try dsimp only at hSw); go_simp; try with_reducible rfl); (try simp only [Act.put, List.setIfInBounds_toArray, List.set_cons_zero, List.set_cons_succ])
      refine WE_take 18 (v := ?_) rfl (by kernel_rfl) (fun _ _ _ h => h) (Or.inl ⟨by rfl, ?_⟩) (by assumption) ?_; rotate_left; (· intro w9 hSw; (try dsimp only at hSw); go_simp; try with_reducible rfl); (try simp only [Act.put, List.setIfInBounds_toArray, List.set_cons_zero, List.set_cons_succ])
      refine WE_take 19 (v := ?_) rfl (by kernel_rfl) (fun _ _ _ h => h) (Or.inl ⟨by rfl, ?_⟩) (by assumption) ?_; rotate_left; (· intro w9 hSw; (try dsimp only at hSw); go_simp; try with_reducible rfl); (try simp only [Act.put, List.setIfInBounds_toArray, List.set_cons_zero, List.set_cons_succ])
      refine WE_take 20 (v := ?_) rfl (by kernel_rfl) (fun _ _ _ h => h) (Or.inl ⟨by rfl, ?_⟩) (by assumption) ?_; rotate_left; (· intro w9 hSw; (try dsimp only at hSw); go_simp; try with_reducible rfl); (try simp only [Act.put, List.setIfInBounds_toArray, List.set_cons_zero, List.set_cons_succ])
      refine WE_take 21 (v := ?_) rfl (by kernel_rfl) (fun _ _ _ h => h) (Or.inl ⟨by rfl, ?_⟩) (by assumption) ?_; rotate_left; (· intro w9 hSw; (try dsimp only at hSw); go_simp; try with_reducible rfl); (try simp only [Act.put, List.setIfInBounds_toArray, List.set_cons_zero, List.set_cons_succ])
      refine WE_take 22 (v := ?_) rfl (by kernel_rfl) (fun _ _ _ h => h) (Or.inl ⟨by rfl, ?_⟩) (by assumption) ?_; rotate_left; (· intro w9 hSw; (try dsimp only at hSw); go_simp; try with_reducible rfl); (try simp only [Act.put, List.setIfInBounds_toArray, List.set_cons_zero, List.set_cons_succ])
      refine WE_step 11 rfl (by kernel_rfl) (fun K hK => ?_)
      go_simp
      (first | (go_at_call 74; with_reducible refine (rdigits_any a _ ha9).mono ?_; rintro e w4 ⟨rfl, hb4⟩) | (go_at_call 74; with_reducible refine (rdigits_any b _ hb9).mono ?_; rintro e w5 ⟨rfl, hb5⟩))
      (try go_wp2_with fail)
      refine hK.out _ _ ?_ (fun hHeld => ?_)
      · (repeat' first | (with_reducible assumption) | (with_reducible exact SX0.init _) | (with_reducible exact SX0.refl _) | (with_reducible refine SX0.alloc ?_ _) | (with_reducible refine SX0.call ?_ (by assumption)) | (with_reducible refine SX0.set ?_ _ _ _ ?_) | (with_reducible refine SX0.drew ?_) | (simp; done) | omega | (simp; omega))
      clear hK K
      try simp only [Act.put, List.setIfInBounds_toArray, List.set_cons_zero, List.set_cons_succ]
      refine WE_take 12 (v := ?_) rfl (by kernel_rfl) (fun _ _ _ h => h) (Or.inl ⟨by rfl, ?_⟩) (by assumption) ?_; rotate_left; (· intro w9 hSw; (try dsimp only at hSw); go_simp; try with_reducible rfl); (try simp only [Act.put, List.setIfInBounds_toArray, List.set_cons_zero, List.set_cons_succ])
      refine WE_take 13 (v := ?_) rfl (by kernel_rfl) (fun _ _ _ h => h) (Or.inl ⟨by rfl, ?_⟩) (by assumption) ?_; rotate_left; (· intro w9 hSw; (try dsimp only at hSw); go_simp; try with_reducible rfl); (try simp only [Act.put, List.setIfInBounds_toArray, List.set_cons_zero, List.set_cons_succ])
      refine WE_step 23 rfl (by kernel_rfl) (fun K hK => ?_)
      go_simp
      (first | (go_at_call 74; with_reducible refine (rdigits_any a _ ha9).mono ?_; rintro e w4 ⟨rfl, hb4⟩) | (go_at_call 74; with_reducible refine (rdigits_any b _ hb9).mono ?_; rintro e w5 ⟨rfl, hb5⟩))
      (try go_wp2_with fail)
      refine hK.out _ _ ?_ (fun hHeld => ?_)
      · (repeat' first | (with_reducible assumption) | (with_reducible exact SX0.init _) | (with_reducible exact SX0.refl _) | (with_reducible refine SX0.alloc ?_ _) | (with_reducible refine SX0.call ?_ (by assumption)) | (with_reducible refine SX0.set ?_ _ _ _ ?_) | (with_reducible refine SX0.drew ?_) | (simp; done) | omega | (simp; omega))
      clear hK K
      try simp only [Act.put, List.setIfInBounds_toArray, List.set_cons_zero, List.set_cons_succ]
      refine WE_take 24 (v := ?_) rfl (by kernel_rfl) (fun _ _ _ h => h) (Or.inl ⟨by rfl, ?_⟩) (by assumption) ?_; rotate_left; (· intro w9 hSw; (try dsimp only at hSw); go_simp; try with_reducible rfl); (try simp only [Act.put, List.setIfInBounds_toArray, List.set_cons_zero, List.set_cons_succ])
      refine WE_take 25 (v := ?_) rfl (by kernel_rfl) (fun _ _ _ h => h) (Or.inl ⟨by rfl, ?_⟩) (by assumption) ?_; rotate_left; (· intro w9 hSw; (try dsimp only at hSw); go_simp; try with_reducible rfl); (try simp only [Act.put, List.setIfInBounds_toArray, List.set_cons_zero, List.set_cons_succ])
      refine WE_last rfl (by kernel_rfl) (fun K hK => ?_)
      go_simp
      refine hK.out _ _ ?_
      clear hK K
      rw [HSN.out]
      have hk9 : Kept [] wq w5 := hHeld.1
      go_wp2_with fail
      exact ⟨⟨j + 1, by omega, by go_num, rfl, Lib.hid (HKQ.out.next hk9 (by simp))⟩, by simp [intOf]; omega⟩
  obtain rfl : j = nt := by omega
  have HE2 : Hid (l ++ thS u j = txt (L.take (i + 1))) := by
    show _ = _
    have e9 : u.y.take j = u.y := List.take_of_length_le (by rw [HPY.out.1]; exact Nat.le_refl _)
    rw [HTX.out, HLL.out, txS]
    unfold thS
    rw [e9]
  rw [HE2.out]
  go_wp2_with fail
  exact ⟨⟨i + 1, by omega, by go_num, rfl, Lib.hid (keptTrans HKR.out HKQ.out)⟩, by simp [intOf]; omega⟩
end Go.Proofs.YtooejoajojanjaaGreatDoor
