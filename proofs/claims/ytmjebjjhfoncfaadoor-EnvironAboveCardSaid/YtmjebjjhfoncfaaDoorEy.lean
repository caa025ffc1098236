/- The law EnvironAbove; solutions that came in. -/
import Derived.Test.YtmjebjjhfoncfaaDoorEx
import Derived.Test.YtmjebjjhfoncfaaDoorEu
import Derived.Test.YtmjebjjhfoncfaaDoorEw
namespace Go.Proofs.YtmjebjjhfoncfaaDoor
open Go.RowKit Go.Df
attribute [local go_sem ↓] Go.wp_at_zero Go.wp_at_succ

set_option maxRecDepth 100000 in
set_option maxHeartbeats 8000000 in
theorem envAbove_any (A B : Option Addr) (n c m c' : Nat) (la lb : Nat → Nat) (fa fb : Nat → Nat → Xf.V) (w : World) (hA : SolR w A n la fa) (hBs : SolR w B m lb fb) (hgv : Gv w) :
    Calls Tryd.prog 4 #[.agg #[.slice A n c], .agg #[.slice B m c']] w fun e w' => e = .returned (.bool true) ∧ Below w.heap.size w w' := by
  have HA := Lib.hid hA
  have HBs := Lib.hid hBs
  have HGV := Lib.hid hgv
  clear hA hBs hgv
  go_enter Tryd.func4, Tryd.ntmps4
  go_upto_region 1 with fail
  refine wp_named (fun W => ∃ b0 b1, w.heap.size = b0 ∧ w.heap.size + 1 = b1 ∧ Blk W b0 [.slice A n c] ∧ Blk W b1 [.slice B m c'] ∧ Below w.heap.size w W) ⟨_, _, rfl, rfl, ?_, ?_, ?_⟩ ?_
  · exact (Blk.new _ _ _ _ (by first | rfl | simp)).alloc _
  · exact Blk.new _ _ _ _ (by first | rfl | simp)
  · go_grown
  rintro W ⟨b0, b1, e0, e1, B0, B1, hB⟩
  rw [e1, e0]
  have G0 : w.heap.size ≤ b0 := by omega
  have n01 : b0 ≠ b1 := by omega
  have G1 : w.heap.size ≤ b1 := by omega
  have n10 : b1 ≠ b0 := by omega
  clear e0 e1
  have ⟨L0, C0, F0⟩ := B0
  have ⟨L1, C1, F1⟩ := B1
  have hkW : Kept [] w W := (Kept.refl _ _).call hB
  by_cases t1 : 60 < n
  · have d1 : decide ((60 : Int) < n) = true := by simp; omega
    go_wp2_with fail
    go_ret
    exact ⟨rfl, hB⟩
  have d1 : decide ((60 : Int) < n) = false := by simp; omega
  by_cases t2 : 60 < m
  · have d2 : decide ((60 : Int) < m) = true := by simp; omega
    go_wp2_with fail
    go_ret
    exact ⟨rfl, hB⟩
  have d2 : decide ((60 : Int) < m) = false := by simp; omega
  go_wp2_with fail
  refine (valid_any A n c la fa _ (HA.out.later hB)).mono ?_
  rintro e w1 ⟨h1, hb1⟩
  have hk1 : Kept [] W w1 := (Kept.refl _ _).call hb1
  have hkw1 : Kept [] w w1 := keptTrans hkW hk1
  have ⟨L10, C10, F10⟩ := hk1.blk (by simp) B0
  have ⟨L11, C11, F11⟩ := hk1.blk (by simp) B1
  clear C0 F0 C1 F1
  rcases h1 with rfl | rfl
  case inr =>
    go_wp2_with fail
    go_ret
    exact ⟨rfl, hkw1.toBelow⟩
  go_wp2_with fail
  refine (valid_any B m c' lb fb _ (HBs.out.later hkw1.toBelow)).mono ?_
  rintro e w2 ⟨h2, hb2⟩
  have hk2 : Kept [] W w2 := hk1.call hb2
  have hkw2 : Kept [] w w2 := keptTrans hkW hk2
  have ⟨L20, C20, F20⟩ := hk2.blk (by simp) B0
  have ⟨L21, C21, F21⟩ := hk2.blk (by simp) B1
  clear C10 F10 C11 F11
  rcases h2 with rfl | rfl
  case inr =>
    go_wp2_with fail
    go_ret
    exact ⟨rfl, hkw2.toBelow⟩
  obtain ⟨r, hr⟩ : ∃ r : Bool, r = true ↔ ∀ i, i < n → ∀ d, d < la i → Xf.below (atS m lb fb i d) (fa i d) = true := by
    by_cases h : ∀ i, i < n → ∀ d, d < la i → Xf.below (atS m lb fb i d) (fa i d) = true
    · exact ⟨true, fun _ => h, fun _ => rfl⟩
    · exact ⟨false, (fun h9 => by cases h9), fun h9 => absurd h9 h⟩
  have HR := Lib.hid hr
  have HT : Hid (∀ i, i < n → ∀ d, d < la i → Xf.below (atS n la fa i d) (fa i d) = true) := fun i hi d hd => by
    unfold atS Xf.below
    rw [if_pos ⟨hi, hd⟩]
    simp
  clear hr
  go_upto_region 3 with fail
  cases r
  · skip
    refine wp_region_E 15 (fun w' => SX0 w2 w') (by kernel_rfl) (by (repeat' first | (with_reducible assumption) | (with_reducible exact SX0.init _) | (with_reducible exact SX0.refl _) | (with_reducible refine SX0.alloc ?_ _) | (with_reducible refine SX0.call ?_ (by assumption)) | (with_reducible refine SX0.set ?_ _ _ _ ?_) | (with_reducible refine SX0.drew ?_) | (simp; done) | omega | (simp; omega))) (fun hHeld => ?_)
    refine WE_take 0 (v := ?_) rfl (by kernel_rfl) (fun _ _ _ h => h) (Or.inl ⟨by rfl, ?_⟩) (by assumption) ?_; rotate_left; (· intro w9 hSw; (try dsimp only at hSw); go_simp; try with_reducible rfl); (try simp only [Act.put, List.setIfInBounds_toArray, List.set_cons_zero, List.set_cons_succ])
    refine WE_take 1 (v := ?_) rfl (by kernel_rfl) (fun _ _ _ h => h) (Or.inl ⟨by rfl, ?_⟩) (by assumption) ?_; rotate_left; (· intro w9 hSw; (try dsimp only at hSw); go_simp; try with_reducible rfl); (try simp only [Act.put, List.setIfInBounds_toArray, List.set_cons_zero, List.set_cons_succ])
    refine WE_take 3 (v := ?_) rfl (by kernel_rfl) (fun _ _ _ h => h) (Or.inl ⟨by rfl, ?_⟩) (by assumption) ?_; rotate_left; (· intro w9 hSw; (try dsimp only at hSw); go_simp; try with_reducible rfl); (try simp only [Act.put, List.setIfInBounds_toArray, List.set_cons_zero, List.set_cons_succ])
    refine WE_take 4 (v := ?_) rfl (by kernel_rfl) (fun _ _ _ h => h) (Or.inl ⟨by rfl, ?_⟩) (by assumption) ?_; rotate_left; (· intro w9 hSw; (try dsimp only at hSw); go_simp; try with_reducible rfl); (try simp only [Act.put, List.setIfInBounds_toArray, List.set_cons_zero, List.set_cons_succ])
    refine WE_step 2 rfl (by kernel_rfl) (fun K hK => ?_)
    go_simp
    (first | (go_at_call 14; with_reducible refine (above_is A B n c m c' la lb fa fb _ (HA.out.later (hkw2.drew).toBelow) (HBs.out.later (hkw2.drew).toBelow) false HR.out).mono ?_; rintro e w3 ⟨rfl, hb3⟩; have HK3 := Lib.hid ((hkw2.drew).call hb3)) | (go_at_call 15; refine (rabove_is A B n c m c' la lb fa fb _ (HA.out.later HK3.out.toBelow) (HBs.out.later HK3.out.toBelow) false HR.out).mono ?_; rintro e w4 ⟨rfl, hb4⟩; have HK4 := Lib.hid (HK3.out.call hb4)) | (go_at_call 14; refine (above_is A A n c n c la la fa fa _ (HA.out.later HK4.out.toBelow) (HA.out.later HK4.out.toBelow) true ⟨fun _ => HT.out, fun _ => rfl⟩).mono ?_; rintro e w5 ⟨rfl, hb5⟩; have HK5 := Lib.hid (HK4.out.call hb5)) | (go_at_call 12; refine (knows_any _ (HGV.out.later HK5.out.toBelow)).mono ?_; rintro e w6 ⟨rfl, hb6⟩))
    (try go_wp2_with fail)
    refine hK.out _ _ ?_ (fun hHeld => ?_)
    · (repeat' first | (with_reducible assumption) | (with_reducible exact SX0.init _) | (with_reducible exact SX0.refl _) | (with_reducible refine SX0.alloc ?_ _) | (with_reducible refine SX0.call ?_ (by assumption)) | (with_reducible refine SX0.set ?_ _ _ _ ?_) | (with_reducible refine SX0.drew ?_) | (simp; done) | omega | (simp; omega))
    clear hK K
    try simp only [Act.put, List.setIfInBounds_toArray, List.set_cons_zero, List.set_cons_succ]
    refine WE_step 5 rfl (by kernel_rfl) (fun K hK => ?_)
    go_simp
    (first | (go_at_call 14; with_reducible refine (above_is A B n c m c' la lb fa fb _ (HA.out.later (hkw2.drew).toBelow) (HBs.out.later (hkw2.drew).toBelow) false HR.out).mono ?_; rintro e w3 ⟨rfl, hb3⟩; have HK3 := Lib.hid ((hkw2.drew).call hb3)) | (go_at_call 15; refine (rabove_is A B n c m c' la lb fa fb _ (HA.out.later HK3.out.toBelow) (HBs.out.later HK3.out.toBelow) false HR.out).mono ?_; rintro e w4 ⟨rfl, hb4⟩; have HK4 := Lib.hid (HK3.out.call hb4)) | (go_at_call 14; refine (above_is A A n c n c la la fa fa _ (HA.out.later HK4.out.toBelow) (HA.out.later HK4.out.toBelow) true ⟨fun _ => HT.out, fun _ => rfl⟩).mono ?_; rintro e w5 ⟨rfl, hb5⟩; have HK5 := Lib.hid (HK4.out.call hb5)) | (go_at_call 12; refine (knows_any _ (HGV.out.later HK5.out.toBelow)).mono ?_; rintro e w6 ⟨rfl, hb6⟩))
    (try go_wp2_with fail)
    refine hK.out _ _ ?_ (fun hHeld => ?_)
    · (repeat' first | (with_reducible assumption) | (with_reducible exact SX0.init _) | (with_reducible exact SX0.refl _) | (with_reducible refine SX0.alloc ?_ _) | (with_reducible refine SX0.call ?_ (by assumption)) | (with_reducible refine SX0.set ?_ _ _ _ ?_) | (with_reducible refine SX0.drew ?_) | (simp; done) | omega | (simp; omega))
    clear hK K
    try simp only [Act.put, List.setIfInBounds_toArray, List.set_cons_zero, List.set_cons_succ]
    refine WE_take 6 (v := ?_) rfl (by kernel_rfl) (fun _ _ _ h => h) (Or.inl ⟨by rfl, ?_⟩) (by assumption) ?_; rotate_left; (· intro w9 hSw; (try dsimp only at hSw); go_simp; try with_reducible rfl); (try simp only [Act.put, List.setIfInBounds_toArray, List.set_cons_zero, List.set_cons_succ])
    refine WE_take 7 (v := ?_) rfl (by kernel_rfl) (fun _ _ _ h => h) (Or.inl ⟨by rfl, ?_⟩) (by assumption) ?_; rotate_left; (· intro w9 hSw; (try dsimp only at hSw); go_simp; try with_reducible rfl); (try simp only [Act.put, List.setIfInBounds_toArray, List.set_cons_zero, List.set_cons_succ])
    refine WE_take 8 (v := ?_) rfl (by kernel_rfl) (fun _ _ _ h => h) (Or.inl ⟨by rfl, ?_⟩) (by assumption) ?_; rotate_left; (· intro w9 hSw; (try dsimp only at hSw); go_simp; try with_reducible rfl); (try simp only [Act.put, List.setIfInBounds_toArray, List.set_cons_zero, List.set_cons_succ])
    refine WE_take 9 (v := ?_) rfl (by kernel_rfl) (fun _ _ _ h => h) (Or.inl ⟨by rfl, ?_⟩) (by assumption) ?_; rotate_left; (· intro w9 hSw; (try dsimp only at hSw); go_simp; try with_reducible rfl); (try simp only [Act.put, List.setIfInBounds_toArray, List.set_cons_zero, List.set_cons_succ])
    refine WE_step 10 rfl (by kernel_rfl) (fun K hK => ?_)
    go_simp
    (first | (go_at_call 14; with_reducible refine (above_is A B n c m c' la lb fa fb _ (HA.out.later (hkw2.drew).toBelow) (HBs.out.later (hkw2.drew).toBelow) false HR.out).mono ?_; rintro e w3 ⟨rfl, hb3⟩; have HK3 := Lib.hid ((hkw2.drew).call hb3)) | (go_at_call 15; refine (rabove_is A B n c m c' la lb fa fb _ (HA.out.later HK3.out.toBelow) (HBs.out.later HK3.out.toBelow) false HR.out).mono ?_; rintro e w4 ⟨rfl, hb4⟩; have HK4 := Lib.hid (HK3.out.call hb4)) | (go_at_call 14; refine (above_is A A n c n c la la fa fa _ (HA.out.later HK4.out.toBelow) (HA.out.later HK4.out.toBelow) true ⟨fun _ => HT.out, fun _ => rfl⟩).mono ?_; rintro e w5 ⟨rfl, hb5⟩; have HK5 := Lib.hid (HK4.out.call hb5)) | (go_at_call 12; refine (knows_any _ (HGV.out.later HK5.out.toBelow)).mono ?_; rintro e w6 ⟨rfl, hb6⟩))
    (try go_wp2_with fail)
    refine hK.out _ _ ?_ (fun hHeld => ?_)
    · (repeat' first | (with_reducible assumption) | (with_reducible exact SX0.init _) | (with_reducible exact SX0.refl _) | (with_reducible refine SX0.alloc ?_ _) | (with_reducible refine SX0.call ?_ (by assumption)) | (with_reducible refine SX0.set ?_ _ _ _ ?_) | (with_reducible refine SX0.drew ?_) | (simp; done) | omega | (simp; omega))
    clear hK K
    try simp only [Act.put, List.setIfInBounds_toArray, List.set_cons_zero, List.set_cons_succ]
    refine WE_take 11 (v := ?_) rfl (by kernel_rfl) (fun _ _ _ h => h) (Or.inl ⟨by rfl, ?_⟩) (by assumption) ?_; rotate_left; (· intro w9 hSw; (try dsimp only at hSw); go_simp; try with_reducible rfl); (try simp only [Act.put, List.setIfInBounds_toArray, List.set_cons_zero, List.set_cons_succ])
    refine WE_take 12 (v := ?_) rfl (by kernel_rfl) (fun _ _ _ h => h) (Or.inl ⟨by rfl, ?_⟩) (by assumption) ?_; rotate_left; (· intro w9 hSw; (try dsimp only at hSw); go_simp; try with_reducible rfl); (try simp only [Act.put, List.setIfInBounds_toArray, List.set_cons_zero, List.set_cons_succ])
    refine WE_step 13 rfl (by kernel_rfl) (fun K hK => ?_)
    go_simp
    (first | (go_at_call 14; with_reducible refine (above_is A B n c m c' la lb fa fb _ (HA.out.later (hkw2.drew).toBelow) (HBs.out.later (hkw2.drew).toBelow) false HR.out).mono ?_; rintro e w3 ⟨rfl, hb3⟩; have HK3 := Lib.hid ((hkw2.drew).call hb3)) | (go_at_call 15; refine (rabove_is A B n c m c' la lb fa fb _ (HA.out.later HK3.out.toBelow) (HBs.out.later HK3.out.toBelow) false HR.out).mono ?_; rintro e w4 ⟨rfl, hb4⟩; have HK4 := Lib.hid (HK3.out.call hb4)) | (go_at_call 14; refine (above_is A A n c n c la la fa fa _ (HA.out.later HK4.out.toBelow) (HA.out.later HK4.out.toBelow) true ⟨fun _ => HT.out, fun _ => rfl⟩).mono ?_; rintro e w5 ⟨rfl, hb5⟩; have HK5 := Lib.hid (HK4.out.call hb5)) | (go_at_call 12; refine (knows_any _ (HGV.out.later HK5.out.toBelow)).mono ?_; rintro e w6 ⟨rfl, hb6⟩))
    (try go_wp2_with fail)
    refine hK.out _ _ ?_ (fun hHeld => ?_)
    · (repeat' first | (with_reducible assumption) | (with_reducible exact SX0.init _) | (with_reducible exact SX0.refl _) | (with_reducible refine SX0.alloc ?_ _) | (with_reducible refine SX0.call ?_ (by assumption)) | (with_reducible refine SX0.set ?_ _ _ _ ?_) | (with_reducible refine SX0.drew ?_) | (simp; done) | omega | (simp; omega))
    clear hK K
    try simp only [Act.put, List.setIfInBounds_toArray, List.set_cons_zero, List.set_cons_succ]
    refine WE_take 14 (v := ?_) rfl (by kernel_rfl) (fun _ _ _ h => h) (Or.inl ⟨by rfl, ?_⟩) (by assumption) ?_; rotate_left; (· intro w9 hSw; (try dsimp only at hSw); go_simp; try with_reducible rfl); (try simp only [Act.put, List.setIfInBounds_toArray, List.set_cons_zero, List.set_cons_succ])
    refine WE_last rfl (by kernel_rfl) (fun K hK => ?_)
    go_simp
    refine hK.out _ _ ?_
    clear hK K
    have hk5 : Kept [] w2 w6 := hHeld.1
    go_wp2_with fail
    go_ret
    exact ⟨rfl, (keptTrans hkw2 hk5).toBelow⟩
  · have HRT : Hid (∀ i, i < n → ∀ d, d < la i → Xf.below (atS m lb fb i d) (fa i d) = true) := Lib.hid (HR.out.1 rfl)
    refine wp_region_E 15 (fun w' => SX0 w2 w') (by kernel_rfl) (by (repeat' first | (with_reducible assumption) | (with_reducible exact SX0.init _) | (with_reducible exact SX0.refl _) | (with_reducible refine SX0.alloc ?_ _) | (with_reducible refine SX0.call ?_ (by assumption)) | (with_reducible refine SX0.set ?_ _ _ _ ?_) | (with_reducible refine SX0.drew ?_) | (simp; done) | omega | (simp; omega))) (fun hHeld => ?_)
    refine WE_take 0 (v := ?_) rfl (by kernel_rfl) (fun _ _ _ h => h) (Or.inl ⟨by rfl, ?_⟩) (by assumption) ?_; rotate_left; (· intro w9 hSw; (try dsimp only at hSw); go_simp; try with_reducible rfl); (try simp only [Act.put, List.setIfInBounds_toArray, List.set_cons_zero, List.set_cons_succ])
    refine WE_take 1 (v := ?_) rfl (by kernel_rfl) (fun _ _ _ h => h) (Or.inl ⟨by rfl, ?_⟩) (by assumption) ?_; rotate_left; (· intro w9 hSw; (try dsimp only at hSw); go_simp; try with_reducible rfl); (try simp only [Act.put, List.setIfInBounds_toArray, List.set_cons_zero, List.set_cons_succ])
    refine WE_take 3 (v := ?_) rfl (by kernel_rfl) (fun _ _ _ h => h) (Or.inl ⟨by rfl, ?_⟩) (by assumption) ?_; rotate_left; (· intro w9 hSw; (try dsimp only at hSw); go_simp; try with_reducible rfl); (try simp only [Act.put, List.setIfInBounds_toArray, List.set_cons_zero, List.set_cons_succ])
    refine WE_take 4 (v := ?_) rfl (by kernel_rfl) (fun _ _ _ h => h) (Or.inl ⟨by rfl, ?_⟩) (by assumption) ?_; rotate_left; (· intro w9 hSw; (try dsimp only at hSw); go_simp; try with_reducible rfl); (try simp only [Act.put, List.setIfInBounds_toArray, List.set_cons_zero, List.set_cons_succ])
    refine WE_step 2 rfl (by kernel_rfl) (fun K hK => ?_)
    go_simp
    (first | (go_at_call 14; with_reducible refine (above_is A B n c m c' la lb fa fb _ (HA.out.later (hkw2.drew).toBelow) (HBs.out.later (hkw2.drew).toBelow) true ⟨fun _ => HRT.out, fun _ => rfl⟩).mono ?_; rintro e w3 ⟨rfl, hb3⟩; have HK3 := Lib.hid ((hkw2.drew).call hb3)) | (go_at_call 15; refine (rabove_is A B n c m c' la lb fa fb _ (HA.out.later HK3.out.toBelow) (HBs.out.later HK3.out.toBelow) true ⟨fun _ => HRT.out, fun _ => rfl⟩).mono ?_; rintro e w4 ⟨rfl, hb4⟩; have HK4 := Lib.hid (HK3.out.call hb4)) | (go_at_call 14; refine (above_is A A n c n c la la fa fa _ (HA.out.later HK4.out.toBelow) (HA.out.later HK4.out.toBelow) true ⟨fun _ => HT.out, fun _ => rfl⟩).mono ?_; rintro e w5 ⟨rfl, hb5⟩; have HK5 := Lib.hid (HK4.out.call hb5)) | (go_at_call 12; refine (knows_any _ (HGV.out.later HK5.out.toBelow)).mono ?_; rintro e w6 ⟨rfl, hb6⟩))
    (try go_wp2_with fail)
    refine hK.out _ _ ?_ (fun hHeld => ?_)
    · (repeat' first | (with_reducible assumption) | (with_reducible exact SX0.init _) | (with_reducible exact SX0.refl _) | (with_reducible refine SX0.alloc ?_ _) | (with_reducible refine SX0.call ?_ (by assumption)) | (with_reducible refine SX0.set ?_ _ _ _ ?_) | (with_reducible refine SX0.drew ?_) | (simp; done) | omega | (simp; omega))
    clear hK K
    try simp only [Act.put, List.setIfInBounds_toArray, List.set_cons_zero, List.set_cons_succ]
    refine WE_step 5 rfl (by kernel_rfl) (fun K hK => ?_)
    go_simp
    (first | (go_at_call 14; with_reducible refine (above_is A B n c m c' la lb fa fb _ (HA.out.later (hkw2.drew).toBelow) (HBs.out.later (hkw2.drew).toBelow) true ⟨fun _ => HRT.out, fun _ => rfl⟩).mono ?_; rintro e w3 ⟨rfl, hb3⟩; have HK3 := Lib.hid ((hkw2.drew).call hb3)) | (go_at_call 15; refine (rabove_is A B n c m c' la lb fa fb _ (HA.out.later HK3.out.toBelow) (HBs.out.later HK3.out.toBelow) true ⟨fun _ => HRT.out, fun _ => rfl⟩).mono ?_; rintro e w4 ⟨rfl, hb4⟩; have HK4 := Lib.hid (HK3.out.call hb4)) | (go_at_call 14; refine (above_is A A n c n c la la fa fa _ (HA.out.later HK4.out.toBelow) (HA.out.later HK4.out.toBelow) true ⟨fun _ => HT.out, fun _ => rfl⟩).mono ?_; rintro e w5 ⟨rfl, hb5⟩; have HK5 := Lib.hid (HK4.out.call hb5)) | (go_at_call 12; refine (knows_any _ (HGV.out.later HK5.out.toBelow)).mono ?_; rintro e w6 ⟨rfl, hb6⟩))
    (try go_wp2_with fail)
    refine hK.out _ _ ?_ (fun hHeld => ?_)
    · (repeat' first | (with_reducible assumption) | (with_reducible exact SX0.init _) | (with_reducible exact SX0.refl _) | (with_reducible refine SX0.alloc ?_ _) | (with_reducible refine SX0.call ?_ (by assumption)) | (with_reducible refine SX0.set ?_ _ _ _ ?_) | (with_reducible refine SX0.drew ?_) | (simp; done) | omega | (simp; omega))
    clear hK K
    try simp only [Act.put, List.setIfInBounds_toArray, List.set_cons_zero, List.set_cons_succ]
    refine WE_take 6 (v := ?_) rfl (by kernel_rfl) (fun _ _ _ h => h) (Or.inl ⟨by rfl, ?_⟩) (by assumption) ?_; rotate_left; (· intro w9 hSw; (try dsimp only at hSw); go_simp; try with_reducible rfl); (try simp only [Act.put, List.setIfInBounds_toArray, List.set_cons_zero, List.set_cons_succ])
    refine WE_take 7 (v := ?_) rfl (by kernel_rfl) (fun _ _ _ h => h) (Or.inl ⟨by rfl, ?_⟩) (by assumption) ?_; rotate_left; (· intro w9 hSw; (try dsimp only at hSw); go_simp; try with_reducible rfl); (try simp only [Act.put, List.setIfInBounds_toArray, List.set_cons_zero, List.set_cons_succ])
    refine WE_take 8 (v := ?_) rfl (by kernel_rfl) (fun _ _ _ h => h) (Or.inl ⟨by rfl, ?_⟩) (by assumption) ?_; rotate_left; (· intro w9 hSw; (try dsimp only at hSw); go_simp; try with_reducible rfl); (try simp only [Act.put, List.setIfInBounds_toArray, List.set_cons_zero, List.set_cons_succ])
    refine WE_take 9 (v := ?_) rfl (by kernel_rfl) (fun _ _ _ h => h) (Or.inl ⟨by rfl, ?_⟩) (by assumption) ?_; rotate_left; (· intro w9 hSw; (try dsimp only at hSw); go_simp; try with_reducible rfl); (try simp only [Act.put, List.setIfInBounds_toArray, List.set_cons_zero, List.set_cons_succ])
    refine WE_step 10 rfl (by kernel_rfl) (fun K hK => ?_)
    go_simp
    (first | (go_at_call 14; with_reducible refine (above_is A B n c m c' la lb fa fb _ (HA.out.later (hkw2.drew).toBelow) (HBs.out.later (hkw2.drew).toBelow) true ⟨fun _ => HRT.out, fun _ => rfl⟩).mono ?_; rintro e w3 ⟨rfl, hb3⟩; have HK3 := Lib.hid ((hkw2.drew).call hb3)) | (go_at_call 15; refine (rabove_is A B n c m c' la lb fa fb _ (HA.out.later HK3.out.toBelow) (HBs.out.later HK3.out.toBelow) true ⟨fun _ => HRT.out, fun _ => rfl⟩).mono ?_; rintro e w4 ⟨rfl, hb4⟩; have HK4 := Lib.hid (HK3.out.call hb4)) | (go_at_call 14; refine (above_is A A n c n c la la fa fa _ (HA.out.later HK4.out.toBelow) (HA.out.later HK4.out.toBelow) true ⟨fun _ => HT.out, fun _ => rfl⟩).mono ?_; rintro e w5 ⟨rfl, hb5⟩; have HK5 := Lib.hid (HK4.out.call hb5)) | (go_at_call 12; refine (knows_any _ (HGV.out.later HK5.out.toBelow)).mono ?_; rintro e w6 ⟨rfl, hb6⟩))
    (try go_wp2_with fail)
    refine hK.out _ _ ?_ (fun hHeld => ?_)
    · (repeat' first | (with_reducible assumption) | (with_reducible exact SX0.init _) | (with_reducible exact SX0.refl _) | (with_reducible refine SX0.alloc ?_ _) | (with_reducible refine SX0.call ?_ (by assumption)) | (with_reducible refine SX0.set ?_ _ _ _ ?_) | (with_reducible refine SX0.drew ?_) | (simp; done) | omega | (simp; omega))
    clear hK K
    try simp only [Act.put, List.setIfInBounds_toArray, List.set_cons_zero, List.set_cons_succ]
    refine WE_take 11 (v := ?_) rfl (by kernel_rfl) (fun _ _ _ h => h) (Or.inl ⟨by rfl, ?_⟩) (by assumption) ?_; rotate_left; (· intro w9 hSw; (try dsimp only at hSw); go_simp; try with_reducible rfl); (try simp only [Act.put, List.setIfInBounds_toArray, List.set_cons_zero, List.set_cons_succ])
    refine WE_take 12 (v := ?_) rfl (by kernel_rfl) (fun _ _ _ h => h) (Or.inl ⟨by rfl, ?_⟩) (by assumption) ?_; rotate_left; (· intro w9 hSw; (try dsimp only at hSw); go_simp; try with_reducible rfl); (try simp only [Act.put, List.setIfInBounds_toArray, List.set_cons_zero, List.set_cons_succ])
    refine WE_step 13 rfl (by kernel_rfl) (fun K hK => ?_)
    go_simp
    (first | (go_at_call 14; with_reducible refine (above_is A B n c m c' la lb fa fb _ (HA.out.later (hkw2.drew).toBelow) (HBs.out.later (hkw2.drew).toBelow) true ⟨fun _ => HRT.out, fun _ => rfl⟩).mono ?_; rintro e w3 ⟨rfl, hb3⟩; have HK3 := Lib.hid ((hkw2.drew).call hb3)) | (go_at_call 15; refine (rabove_is A B n c m c' la lb fa fb _ (HA.out.later HK3.out.toBelow) (HBs.out.later HK3.out.toBelow) true ⟨fun _ => HRT.out, fun _ => rfl⟩).mono ?_; rintro e w4 ⟨rfl, hb4⟩; have HK4 := Lib.hid (HK3.out.call hb4)) | (go_at_call 14; refine (above_is A A n c n c la la fa fa _ (HA.out.later HK4.out.toBelow) (HA.out.later HK4.out.toBelow) true ⟨fun _ => HT.out, fun _ => rfl⟩).mono ?_; rintro e w5 ⟨rfl, hb5⟩; have HK5 := Lib.hid (HK4.out.call hb5)) | (go_at_call 12; refine (knows_any _ (HGV.out.later HK5.out.toBelow)).mono ?_; rintro e w6 ⟨rfl, hb6⟩))
    (try go_wp2_with fail)
    refine hK.out _ _ ?_ (fun hHeld => ?_)
    · (repeat' first | (with_reducible assumption) | (with_reducible exact SX0.init _) | (with_reducible exact SX0.refl _) | (with_reducible refine SX0.alloc ?_ _) | (with_reducible refine SX0.call ?_ (by assumption)) | (with_reducible refine SX0.set ?_ _ _ _ ?_) | (with_reducible refine SX0.drew ?_) | (simp; done) | omega | (simp; omega))
    clear hK K
    try simp only [Act.put, List.setIfInBounds_toArray, List.set_cons_zero, List.set_cons_succ]
    refine WE_take 14 (v := ?_) rfl (by kernel_rfl) (fun _ _ _ h => h) (Or.inl ⟨by rfl, ?_⟩) (by assumption) ?_; rotate_left; (· intro w9 hSw; (try dsimp only at hSw); go_simp; try with_reducible rfl); (try simp only [Act.put, List.setIfInBounds_toArray, List.set_cons_zero, List.set_cons_succ])
    refine WE_last rfl (by kernel_rfl) (fun K hK => ?_)
    go_simp
    refine hK.out _ _ ?_
    clear hK K
    have hk5 : Kept [] w2 w6 := hHeld.1
    go_wp2_with fail
    go_ret
    exact ⟨rfl, (keptTrans hkw2 hk5).toBelow⟩
end Go.Proofs.YtmjebjjhfoncfaaDoor
namespace Go.Df
open Go.RowKit Go.ChangeShapes Go.WideShapes
theorem slice_len {H : Type} {enc : TypeId × Value → H} {P : Program} {w : World} {base : Nat} {held : Bool} {t e : TypeId} {fuel : Nat} {A : Option Addr} {n c : Nat} {x : DataW H × List MemPlace} (ht : P.underlying t = some (.slice e))
    (h : DataW.trod enc P w base (fun _ => true) held fuel t [.slice A n c] = some x) : n ≤ 9223372036854775807 := by
  rcases Go.Deep.open_slice ht h with ⟨h0, _⟩ | ⟨a, len, cap, m, k, D, Pl, hcs, hbb, hl, hm, hmm, hx, hi⟩
  · injection h0 with h0
    injection h0 with h1 h2 h3
    omega
  · injection hcs with hcs
    injection hcs with h1 h2 h3
    unfold maxLen at hm
    omega
end Go.Df
namespace Go.Proofs.YtmjebjjhfoncfaaDoor
open Go.RowKit Go.ChangeShapes Go.WideShapes Go.Joins Go.Df
section
variable {H : Type} {enc : TypeId × Value → H} {w : World} {base : Nat} {held : Bool}
theorem open_valueI (n : Nat) (cs' : List Value) (y : DataW H × List MemPlace) (h : DataW.trod enc Tryd.prog w base (fun _ => true) held n 52 cs' = some y) : ∃ zs : List Int, cs' = zs.map (Value.int .i64) ∧ ∀ q, q < 2 → (Lit.int .i64 (gi zs q)).wf = true := by
  obtain ⟨z0, z1, e, w0, w1, -⟩ := open_value n cs' y h
  refine ⟨[z0, z1], e, fun q hq => ?_⟩
  match q, hq with
  | 0, _ => exact w0
  | 1, _ => exact w1
theorem open_rows2 {fuel : Nat} {v : Value} {x : DataW H × List MemPlace} (h : DataW.trod enc Tryd.prog w base (fun _ => true) held fuel 39 [v] = some x) : ∃ A n c len f, v = .slice A n c ∧ SolR w A n len f := by
  obtain ⟨A, n, c, rfl, -, hrow⟩ := open_rowsC Tryd.underlying39 (by kernel_rfl) h
  have hn := slice_len Tryd.underlying39 h
  have hex : ∀ i, ∃ q : Nat × (Nat → Xf.V), q.1 ≤ 9223372036854775807 ∧ ∀ b o, A = some ⟨b, o, none⟩ → i < n → ∃ Ai ci, w.cell? ⟨b, o + i, none⟩ = some (.slice Ai q.1 ci) ∧
      (0 < q.1 → ∃ b' o', Ai = some ⟨b', o', none⟩ ∧ b' < w.heap.size ∧ ∀ d, d < q.1 → w.cell? ⟨b', o' + d * 2, none⟩ = some (.int .i64 (q.2 d).k) ∧ w.cell? ⟨b', o' + d * 2 + 1, none⟩ = some (.int .i64 (q.2 d).n)) := by
    intro i
    by_cases hi : i < n
    · obtain ⟨b, o, rfl, hb, hc⟩ := hrow (by omega)
      obtain ⟨u, m, y, h1, h2⟩ := hc i hi
      obtain ⟨Ai, ni, ci, g, rfl, -, k1, -⟩ := open_rowsI Tryd.underlying32 (k := 2) (by kernel_rfl) (by omega) open_valueI h2
      have hni := slice_len Tryd.underlying32 h2
      refine ⟨(ni, fun d => ⟨g d 0, g d 1⟩), hni, fun b' o' e' _ => ?_⟩
      injection e' with e'
      injection e' with e1 e2
      subst e1 e2
      refine ⟨Ai, ci, h1, fun h0 => ?_⟩
      obtain ⟨b2, o2, rfl, hl2, hc2⟩ := k1 h0
      exact ⟨b2, o2, rfl, hl2, fun d hd => ⟨hc2 d hd 0 (by omega), hc2 d hd 1 (by omega)⟩⟩
    · exact ⟨(0, fun _ => ⟨0, 0⟩), by show 0 ≤ _; omega, fun _ _ _ h => absurd h hi⟩
  refine ⟨A, n, c, fun i => (hex i).choose.1, fun i => (hex i).choose.2, rfl, hn, fun i _ => (hex i).choose_spec.1, fun h0 => ?_⟩
  obtain ⟨b, o, rfl, hb, -⟩ := hrow h0
  exact ⟨b, o, rfl, hb, fun i hi => (hex i).choose_spec.2 b o rfl hi⟩
set_option maxRecDepth 100000 in
/-- A solution that came in. -/
theorem open_vsol {r : Reach} {b0 : Nat} {v : Value} {d : DataW H} {p : List MemPlace} (hv : Value.okWide Tryd.prog w r b0 41 v) (h : DataW.Trod enc Tryd.prog w base (fun _ => true) held 41 v d p) :
    ∃ A n c len f, v = .agg #[.slice A n c] ∧ SolR w A n len f := by
  obtain ⟨cs, rfl, hsz⟩ := okWide_struct Tryd.underlying41 hv
  have hC : Tryd.prog.cellsOf 41 = 1 := by kernel_rfl
  have hS : Tryd.prog.cellsOf 39 = 1 := by kernel_rfl
  rw [hC] at hsz
  obtain ⟨l⟩ := cs
  match l, hsz with
  | [v0], _ =>
  obtain ⟨fuel, hf⟩ := h
  obtain ⟨y0, m, -, -, h0⟩ := trod_struct1 Tryd.underlying41 hf
  simp only [Value.cells, hS, List.drop_zero, List.take_succ_cons, List.take_zero] at h0
  obtain ⟨A, n, c, len, f, rfl, hs⟩ := open_rows2 h0
  exact ⟨A, n, c, len, f, rfl, hs⟩
end
end Go.Proofs.YtmjebjjhfoncfaaDoor
