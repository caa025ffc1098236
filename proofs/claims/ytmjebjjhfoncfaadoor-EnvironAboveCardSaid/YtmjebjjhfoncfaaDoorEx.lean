/- The contracts of the reference's at and Above, and of the law's valid (printed by genEx.py). -/
import Derived.Test.YtmjebjjhfoncfaaDoorEs
import Derived.Test.YtmjebjjhfoncfaaDoorLe
namespace Go.Proofs.YtmjebjjhfoncfaaDoor
open Go.RowKit Go.Df
attribute [local go_sem ↓] Go.wp_at_zero Go.wp_at_succ

set_option maxRecDepth 100000 in
set_option maxHeartbeats 4000000 in
theorem rat_any (B : Option Addr) (m c' i d : Nat) (lb : Nat → Nat) (fb : Nat → Nat → Xf.V) (w : World) (hBs : SolR w B m lb fb) (uk un : Int) (hu : atS m lb fb i d = ⟨uk, un⟩) :
    Calls Tryd.prog 28 #[.agg #[.slice B m c'], .int .i64 i, .int .i64 d] w fun e w' => e = .returned (.agg #[.int .i64 uk, .int .i64 un]) ∧ Below w.heap.size w w' := by
  have HBs := Lib.hid hBs
  clear hBs
  go_enter Tryd.func28, Tryd.ntmps28
  go_upto_region 1 with fail
  refine wp_named (fun V => ∃ b0 b1, w.heap.size = b0 ∧ w.heap.size + 1 = b1 ∧ Blk V b0 [.slice B m c'] ∧ Blk V b1 [.int .i64 0, .int .i64 0] ∧ Kept [] w V) ⟨_, _, rfl, rfl, (Blk.new _ _ _ _ rfl).alloc _, Blk.new _ _ _ _ (by simp), ((Kept.refl _ _).alloc _).alloc _⟩ ?_
  rintro V ⟨b0, b1, e0, e1, B0, B1, hkV⟩
  rw [e1, e0]
  have g1 : w.heap.size ≤ b1 := by omega
  have n01 : b0 ≠ b1 := by omega
  have ⟨L0, C0, F0⟩ := B0
  have ⟨L1, C1, F1⟩ := B1
  clear e0 e1
  by_cases hm : i < m
  case neg =>
    have hz : (⟨0, 0⟩ : Xf.V) = ⟨uk, un⟩ := by rw [← hu]; unfold atS; rw [if_neg (fun h => hm h.1)]
    injection hz with z1 z2
    subst z1 z2
    have m1 : decide ((i : Int) < (m : Int)) = false := by simp; omega
    have m2 : decide (i < m) = false := by simp; omega
    clear hu
    go_wp2_with fail
    refine post_named (fun X => Blk X b1 [.int .i64 0, .int .i64 0] ∧ Kept [] w X) ⟨(B1.set 0 _).set 1 _, (hkV.set b1 _ _ (.inr g1)).set b1 _ _ (.inr g1)⟩ ?_
    rintro X ⟨BX, hkX⟩
    have ⟨LX, CX, FX⟩ := BX
    refine bodyPost_ret (by simp [results, Tryd.results28, go_sem, CX]; rfl) rfl ?_
    exact ⟨rfl, hkX.toBelow⟩
  obtain ⟨bb, ob, Bi, di, rfl, hlb, hcb, hrb⟩ := HBs.out.row hkV.toBelow hm
  have hlbV : bb < V.heap.size := Nat.lt_of_lt_of_le hlb hkV.size
  have hlenb := HBs.out.2.1 i hm
  obtain ⟨lj, hlj⟩ : ∃ lj, lb i = lj := ⟨_, rfl⟩
  rw [hlj] at hcb hrb hlenb
  have m1 : decide ((i : Int) < (m : Int)) = true := by simp; omega
  have m2 : (i : Int) < (m : Int) := by omega
  by_cases hdm : d < lj
  case neg =>
    have hz : (⟨0, 0⟩ : Xf.V) = ⟨uk, un⟩ := by rw [← hu]; unfold atS; rw [if_neg (fun h => hdm (by rw [hlj] at h; exact h.2))]
    injection hz with z1 z2
    subst z1 z2
    have m3 : decide ((d : Int) < (lj : Int)) = false := by simp; omega
    have m4 : decide (d < lj) = false := by simp; omega
    clear hu hlj hrb
    go_wp2_with fail
    refine post_named (fun X => Blk X b1 [.int .i64 0, .int .i64 0] ∧ Kept [] w X) ⟨(B1.set 0 _).set 1 _, (hkV.set b1 _ _ (.inr g1)).set b1 _ _ (.inr g1)⟩ ?_
    rintro X ⟨BX, hkX⟩
    have ⟨LX, CX, FX⟩ := BX
    refine bodyPost_ret (by simp [results, Tryd.results28, go_sem, CX]; rfl) rfl ?_
    exact ⟨rfl, hkX.toBelow⟩
  obtain ⟨b2, o2, rfl, hl2, hc2⟩ := hrb (by omega)
  have hz : fb i d = ⟨uk, un⟩ := by rw [← hu]; unfold atS; rw [if_pos ⟨hm, by rw [hlj]; exact hdm⟩]
  have r1 := (hkV.cell b2 _ hl2 (by simp)).trans (hc2 d hdm).1
  have r2 := (hkV.cell b2 _ hl2 (by simp)).trans (hc2 d hdm).2
  rw [hz] at r1 r2
  have hl2V : b2 < V.heap.size := Nat.lt_of_lt_of_le hl2 hkV.size
  have m3 : decide ((d : Int) < (lj : Int)) = true := by simp; omega
  have m4 : (d : Int) < (lj : Int) := by omega
  clear hu hlj hc2 hrb hz
  go_wp2_with fail
  refine post_named (fun X => Blk X b1 [.int .i64 uk, .int .i64 un] ∧ Kept [] w X) ⟨(B1.set 0 _).set 1 _, (hkV.set b1 _ _ (.inr g1)).set b1 _ _ (.inr g1)⟩ ?_
  rintro X ⟨BX, hkX⟩
  have ⟨LX, CX, FX⟩ := BX
  refine bodyPost_ret (by simp [results, Tryd.results28, go_sem, CX]; rfl) rfl ?_
  exact ⟨rfl, hkX.toBelow⟩
theorem above_is (A B : Option Addr) (n c m c' : Nat) (la lb : Nat → Nat) (fa fb : Nat → Nat → Xf.V) (w : World) (hA : SolR w A n la fa) (hBs : SolR w B m lb fb) (r : Bool) (hr : r = true ↔ ∀ i, i < n → ∀ d, d < la i → Xf.below (atS m lb fb i d) (fa i d) = true) :
    Calls Tryd.prog 14 #[.agg #[.slice A n c], .agg #[.slice B m c']] w fun e w' => e = .returned (.bool r) ∧ Below w.heap.size w w' := by
  refine (above_any A B n c m c' la lb fa fb w hA hBs).mono ?_
  rintro e w' ⟨r', rfl, h', hb⟩
  refine ⟨ret_bool ?_, hb⟩
  rw [Bool.eq_iff_iff]
  exact h'.trans hr.symm

set_option maxRecDepth 100000 in
set_option maxHeartbeats 8000000 in
theorem rabove_any (A B : Option Addr) (n c m c' : Nat) (la lb : Nat → Nat) (fa fb : Nat → Nat → Xf.V) (w : World) (hA : SolR w A n la fa) (hBs : SolR w B m lb fb) :
    Calls Tryd.prog 15 #[.agg #[.slice A n c], .agg #[.slice B m c']] w fun e w' => ∃ r : Bool, e = .returned (.bool r) ∧ (r = true ↔ ∀ i, i < n → ∀ d, d < la i → Xf.rbelow (atS m lb fb i d) (fa i d) = true) ∧ Below w.heap.size w w' := by
  have HA := Lib.hid hA
  have HBs := Lib.hid hBs
  have hn := hA.1
  clear hA hBs
  go_enter Tryd.func15, Tryd.ntmps15
  go_upto_region 1 with fail
  refine wp_named (fun W => ∃ b0 b1, w.heap.size = b0 ∧ w.heap.size + 1 = b1 ∧ Blk W b0 [.slice A n c] ∧ Blk W b1 [.slice B m c'] ∧ Below w.heap.size w W) ⟨_, _, rfl, rfl, ?_, ?_, ?_⟩ ?_
  · exact (Blk.new _ _ _ _ (by first | rfl | simp)).alloc _
  · exact Blk.new _ _ _ _ (by first | rfl | simp)
  · go_grown
  rintro W ⟨b0, b1, e0, e1, B0, B1, hB⟩
  rw [e1, e0]
  have G0 : w.heap.size ≤ b0 := by omega
  have n01 : b0 ≠ b1 := by omega
  have G1 : w.heap.size ≤ b1 := by omega
  have n10 : b1 ≠ b0 := by omega
  clear e0 e1
  have ⟨L0, C0, F0⟩ := B0
  have ⟨L1, C1, F1⟩ := B1
  have hkW : Kept [] w W := (Kept.refl _ _).call hB
  go_wp2_with fail
  go_loopw [5] (fun s wr => ∃ i : Nat, i ≤ n ∧ s = .int .i64 i ∧ Kept [] W wr ∧ Hid (∀ x, x < i → ∀ d, d < la x → Xf.rbelow (atS m lb fb x d) (fa x d) = true)) (fun s _ => n - (intOf s).toNat)
  case atStart => exact ⟨0, Nat.zero_le _, rfl, Kept.refl _ _, Lib.hid (fun x hx => absurd hx (by omega))⟩
  case round =>
    obtain ⟨i, hi, rfl, hkr, hall⟩ := hrel
    have hkwr : Kept [] w wr := keptTrans hkW hkr
    have ⟨LR0, CR0, FR0⟩ := hkr.blk (by simp) B0
    clear C0 F0 C1 F1
    by_cases hlt : i < n
    case neg =>
      obtain rfl : i = n := by omega
      go_wp2_with fail
      go_ret
      exact ⟨true, rfl, ⟨fun _ => hall.out, fun _ => rfl⟩, hkwr.toBelow⟩
    obtain ⟨ba, oa, Ai, ci, rfl, hla, hca, hra⟩ := HA.out.row (Below.refl _ _) hlt
    have hlen := HA.out.2.1 i hlt
    obtain ⟨li, hli⟩ : ∃ li, la i = li := ⟨_, rfl⟩
    rw [hli] at hca hra hlen
    have HRA := Lib.hid hra
    have HCA := Lib.hid hca
    have HLI := Lib.hid hli
    have hi1 : (i : Int) < (n : Int) := by omega
    clear hra hli hca
    go_wp2_with fail
    clear CR0 FR0
    go_loopw [6] (fun s wq => ∃ d : Nat, d ≤ li ∧ s = .int .i64 d ∧ Kept [] W wq ∧ Hid (∀ y, y < d → Xf.rbelow (atS m lb fb i y) (fa i y) = true)) (fun s _ => li - (intOf s).toNat)
    case atStart => exact ⟨0, Nat.zero_le _, rfl, hkr, Lib.hid (fun x hx => absurd hx (by omega))⟩
    case round =>
      rename World => wq
      obtain ⟨d, hdl, rfl, hkq, hd⟩ := hrel
      have hkwq : Kept [] w wq := keptTrans hkW hkq
      have ⟨LQ0, CQ0, FQ0⟩ := hkq.blk (by simp) B0
      have ⟨LQ1, CQ1, FQ1⟩ := hkq.blk (by simp) B1
      have hca := (hkwq.cell ba _ hla (by simp)).trans HCA.out
      have hlaq : ba < wq.heap.size := Nat.lt_of_lt_of_le hla hkwq.size
      by_cases hltd : d < li
      case neg =>
        obtain rfl : d = li := by omega
        have HALL : Hid (∀ x, x < i + 1 → ∀ d, d < la x → Xf.rbelow (atS m lb fb x d) (fa x d) = true) := fun x hx y hy => by
          rcases Nat.lt_or_ge x i with h9 | h9
          · exact hall.out x h9 y hy
          · obtain rfl : x = i := by omega
            exact hd.out y (by rw [HLI.out] at hy; exact hy)
        go_wp2_with fail
        exact ⟨⟨i + 1, by omega, by go_num, hkq, HALL⟩, by simp [intOf]; omega⟩
      obtain ⟨b, o, rfl, hl, hc⟩ := HRA.out (by omega)
      obtain ⟨⟨vk, vn⟩, hv⟩ : ∃ v, fa i d = v := ⟨_, rfl⟩
      have h1 := (hkwq.cell b _ hl (by simp)).trans (hc d hltd).1
      have h2 := (hkwq.cell b _ hl (by simp)).trans (hc d hltd).2
      rw [hv] at h1 h2
      have HV := Lib.hid hv
      have hlq : b < wq.heap.size := Nat.lt_of_lt_of_le hl hkwq.size
      have hd1 : (d : Int) < (li : Int) := by omega
      clear hv hc
      obtain ⟨⟨uk, un⟩, hu⟩ : ∃ u, atS m lb fb i d = u := ⟨_, rfl⟩
      have HU := Lib.hid hu
      clear hu
      obtain ⟨r, hr⟩ : ∃ r, Xf.rbelow ⟨uk, un⟩ ⟨vk, vn⟩ = r := ⟨_, rfl⟩
      have HR := Lib.hid hr
      clear hr
      have hltd' : d < la i := by rw [HLI.out]; exact hltd
      go_upto_region 7 with fail
      refine wp_region_E 13 (fun w' => SX0 wq w') (by kernel_rfl) (by (repeat' first | (with_reducible assumption) | (with_reducible exact SX0.init _) | (with_reducible exact SX0.refl _) | (with_reducible refine SX0.alloc ?_ _) | (with_reducible refine SX0.call ?_ (by assumption)) | (with_reducible refine SX0.set ?_ _ _ _ ?_) | (with_reducible refine SX0.drew ?_) | (simp; done) | omega | (simp; omega))) (fun hHeld => ?_)
      refine WE_take 0 (v := ?_) rfl (by kernel_rfl) (fun _ _ _ h => h) (Or.inl ⟨by rfl, ?_⟩) (by assumption) ?_; rotate_left; (· intro w9 hSw; (try dsimp only at hSw); go_simp; try with_reducible rfl); (try simp only [Act.put, List.setIfInBounds_toArray, List.set_cons_zero, List.set_cons_succ])
      refine WE_take 1 (v := ?_) rfl (by kernel_rfl) (fun _ _ _ h => h) (Or.inl ⟨by rfl, ?_⟩) (by assumption) ?_; rotate_left; (· intro w9 hSw; (try dsimp only at hSw); go_simp; try with_reducible rfl); (try simp only [Act.put, List.setIfInBounds_toArray, List.set_cons_zero, List.set_cons_succ])
      refine WE_take 2 (v := ?_) rfl (by kernel_rfl) (fun _ _ _ h => h) (Or.inl ⟨by rfl, ?_⟩) (by assumption) ?_; rotate_left; (· intro w9 hSw; (try dsimp only at hSw); go_simp; try with_reducible rfl); (try simp only [Act.put, List.setIfInBounds_toArray, List.set_cons_zero, List.set_cons_succ])
      refine WE_take 4 (v := ?_) rfl (by kernel_rfl) (fun _ _ _ h => h) (Or.inl ⟨by rfl, ?_⟩) (by assumption) ?_; rotate_left; (· intro w9 hSw; (try dsimp only at hSw); go_simp; try with_reducible rfl); (try simp only [Act.put, List.setIfInBounds_toArray, List.set_cons_zero, List.set_cons_succ])
      refine WE_take 5 (v := ?_) rfl (by kernel_rfl) (fun _ _ _ h => h) (Or.inl ⟨by rfl, ?_⟩) (by assumption) ?_; rotate_left; (· intro w9 hSw; (try dsimp only at hSw); go_simp; try with_reducible rfl); (try simp only [Act.put, List.setIfInBounds_toArray, List.set_cons_zero, List.set_cons_succ])
      refine WE_take 6 (v := ?_) rfl (by kernel_rfl) (fun _ _ _ h => h) (Or.inl ⟨by rfl, ?_⟩) (by assumption) ?_; rotate_left; (· intro w9 hSw; (try dsimp only at hSw); go_simp; try with_reducible rfl); (try simp only [Act.put, List.setIfInBounds_toArray, List.set_cons_zero, List.set_cons_succ])
      refine WE_take 7 (v := ?_) rfl (by kernel_rfl) (fun _ _ _ h => h) (Or.inl ⟨by rfl, ?_⟩) (by assumption) ?_; rotate_left; (· intro w9 hSw; (try dsimp only at hSw); go_simp; try with_reducible rfl); (try simp only [Act.put, List.setIfInBounds_toArray, List.set_cons_zero, List.set_cons_succ])
      refine WE_take 8 (v := ?_) rfl (by kernel_rfl) (fun _ _ _ h => h) (Or.inl ⟨by rfl, ?_⟩) (by assumption) ?_; rotate_left; (· intro w9 hSw; (try dsimp only at hSw); go_simp; try with_reducible rfl); (try simp only [Act.put, List.setIfInBounds_toArray, List.set_cons_zero, List.set_cons_succ])
      refine WE_take 9 (v := ?_) rfl (by kernel_rfl) (fun _ _ _ h => h) (Or.inl ⟨by rfl, ?_⟩) (by assumption) ?_; rotate_left; (· intro w9 hSw; (try dsimp only at hSw); go_simp; try with_reducible rfl); (try simp only [Act.put, List.setIfInBounds_toArray, List.set_cons_zero, List.set_cons_succ])
      refine WE_take 10 (v := ?_) rfl (by kernel_rfl) (fun _ _ _ h => h) (Or.inl ⟨by rfl, ?_⟩) (by assumption) ?_; rotate_left; (· intro w9 hSw; (try dsimp only at hSw); go_simp; try with_reducible rfl); (try simp only [Act.put, List.setIfInBounds_toArray, List.set_cons_zero, List.set_cons_succ])
      refine WE_take 11 (v := ?_) rfl (by kernel_rfl) (fun _ _ _ h => h) (Or.inl ⟨by rfl, ?_⟩) (by assumption) ?_; rotate_left; (· intro w9 hSw; (try dsimp only at hSw); go_simp; try with_reducible rfl); (try simp only [Act.put, List.setIfInBounds_toArray, List.set_cons_zero, List.set_cons_succ])
      refine WE_step 3 rfl (by kernel_rfl) (fun K hK => ?_)
      go_simp
      (first | (go_at_call 28; refine (rat_any B m c' i d lb fb _ (HBs.out.later (hkwq.drew).toBelow) uk un HU.out).mono ?_; rintro e w4 ⟨rfl, hb4⟩) | (go_at_call 27; refine (rbelow_any uk un vk vn _).mono ?_; rw [HR.out]; rintro e w5 ⟨rfl, hb5⟩))
      (try go_wp2_with fail)
      refine hK.out _ _ ?_ (fun hHeld => ?_)
      · (repeat' first | (with_reducible assumption) | (with_reducible exact SX0.init _) | (with_reducible exact SX0.refl _) | (with_reducible refine SX0.alloc ?_ _) | (with_reducible refine SX0.call ?_ (by assumption)) | (with_reducible refine SX0.set ?_ _ _ _ ?_) | (with_reducible refine SX0.drew ?_) | (simp; done) | omega | (simp; omega))
      clear hK K
      try simp only [Act.put, List.setIfInBounds_toArray, List.set_cons_zero, List.set_cons_succ]
      refine WE_step 12 rfl (by kernel_rfl) (fun K hK => ?_)
      go_simp
      (first | (go_at_call 28; refine (rat_any B m c' i d lb fb _ (HBs.out.later (hkwq.drew).toBelow) uk un HU.out).mono ?_; rintro e w4 ⟨rfl, hb4⟩) | (go_at_call 27; refine (rbelow_any uk un vk vn _).mono ?_; rw [HR.out]; rintro e w5 ⟨rfl, hb5⟩))
      (try go_wp2_with fail)
      refine hK.out _ _ ?_ (fun hHeld => ?_)
      · (repeat' first | (with_reducible assumption) | (with_reducible exact SX0.init _) | (with_reducible exact SX0.refl _) | (with_reducible refine SX0.alloc ?_ _) | (with_reducible refine SX0.call ?_ (by assumption)) | (with_reducible refine SX0.set ?_ _ _ _ ?_) | (with_reducible refine SX0.drew ?_) | (simp; done) | omega | (simp; omega))
      clear hK K
      try simp only [Act.put, List.setIfInBounds_toArray, List.set_cons_zero, List.set_cons_succ]
      refine WE_last rfl (by kernel_rfl) (fun K hK => ?_)
      go_simp
      refine hK.out _ _ ?_
      clear hK K
      have hk5 : Kept [] wq w5 := hHeld.1
      cases r with
      | true =>
        have HD2 : Hid (∀ y, y < d + 1 → Xf.rbelow (atS m lb fb i y) (fa i y) = true) := fun y hy => by
          rcases Nat.lt_or_ge y d with h9 | h9
          · exact hd.out y h9
          · obtain rfl : y = d := by omega
            rw [HU.out, HV.out, HR.out]
        go_wp2_with fail
        exact ⟨⟨d + 1, by omega, by go_num, keptTrans hkq hk5, HD2⟩, by simp [intOf]; omega⟩
      | false =>
        go_wp2_with fail
        go_ret
        refine ⟨false, rfl, ⟨(fun h => by cases h), fun h => ?_⟩, (keptTrans hkwq hk5).toBelow⟩
        have h9 := h i hlt d hltd'
        rw [HU.out, HV.out, HR.out] at h9
        cases h9
theorem rabove_is (A B : Option Addr) (n c m c' : Nat) (la lb : Nat → Nat) (fa fb : Nat → Nat → Xf.V) (w : World) (hA : SolR w A n la fa) (hBs : SolR w B m lb fb) (r : Bool) (hr : r = true ↔ ∀ i, i < n → ∀ d, d < la i → Xf.below (atS m lb fb i d) (fa i d) = true) :
    Calls Tryd.prog 15 #[.agg #[.slice A n c], .agg #[.slice B m c']] w fun e w' => e = .returned (.bool r) ∧ Below w.heap.size w w' := by
  refine (rabove_any A B n c m c' la lb fa fb w hA hBs).mono ?_
  rintro e w' ⟨r', rfl, h', hb⟩
  refine ⟨ret_bool ?_, hb⟩
  have hbb : ∀ v u : Xf.V, Xf.rbelow v u = Xf.below v u := fun v u => by
    unfold Xf.rbelow Xf.below
    rw [Bool.eq_iff_iff]
    simp only [decide_eq_true_eq]
    constructor
    · rintro (h | h | h)
      · exact .inr (.inr h)
      · exact .inr (.inl h)
      · exact .inl h
    · rintro (h | h | h)
      · exact .inr (.inr h)
      · exact .inr (.inl h)
      · exact .inl h
  rw [Bool.eq_iff_iff]
  refine Iff.trans ?_ hr.symm
  simp only [hbb] at h'
  exact h'

set_option maxRecDepth 100000 in
set_option maxHeartbeats 8000000 in
theorem valid_any (A : Option Addr) (n c : Nat) (la : Nat → Nat) (fa : Nat → Nat → Xf.V) (w : World) (hA : SolR w A n la fa) :
    Calls Tryd.prog 13 #[.agg #[.slice A n c]] w fun e w' => (e = .returned (.bool true) ∨ e = .returned (.bool false)) ∧ Below w.heap.size w w' := by
  have HA := Lib.hid hA
  have hn := hA.1
  clear hA
  go_enter Tryd.func13, Tryd.ntmps13
  go_upto_region 1 with fail
  refine wp_named (fun W => ∃ b0, w.heap.size = b0 ∧ Blk W b0 [.slice A n c] ∧ Below w.heap.size w W) ⟨_, rfl, ?_, ?_⟩ ?_
  · exact Blk.new _ _ _ _ (by first | rfl | simp)
  · go_grown
  rintro W ⟨b0, e0, B0, hB⟩
  rw [e0]
  have G0 : w.heap.size ≤ b0 := by omega
  clear e0
  have ⟨L0, C0, F0⟩ := B0
  have hkW : Kept [] w W := (Kept.refl _ _).call hB
  go_wp2_with fail
  go_loopw [3] (fun s wr => ∃ i : Nat, i ≤ n ∧ s = .int .i64 i ∧ Kept [] W wr) (fun s _ => n - (intOf s).toNat)
  case atStart => exact ⟨0, Nat.zero_le _, rfl, Kept.refl _ _⟩
  case round =>
    obtain ⟨i, hi, rfl, hkr⟩ := hrel
    have hkwr : Kept [] w wr := keptTrans hkW hkr
    have ⟨LR0, CR0, FR0⟩ := hkr.blk (by simp) B0
    clear C0 F0
    by_cases hlt : i < n
    case neg =>
      obtain rfl : i = n := by omega
      go_wp2_with fail
      go_ret
      exact ⟨.inl rfl, hkwr.toBelow⟩
    obtain ⟨ba, oa, Ai, ci, rfl, hla, hca, hra⟩ := HA.out.row (Below.refl _ _) hlt
    have hlen := HA.out.2.1 i hlt
    obtain ⟨li, hli⟩ : ∃ li, la i = li := ⟨_, rfl⟩
    rw [hli] at hca hra hlen
    have HRA := Lib.hid hra
    have HCA := Lib.hid hca
    have hi1 : (i : Int) < (n : Int) := by omega
    clear hra hli hca
    go_wp2_with fail
    clear CR0 FR0
    go_loopw [4] (fun s wq => ∃ d : Nat, d ≤ li ∧ s = .int .i64 d ∧ Kept [] W wq) (fun s _ => li - (intOf s).toNat)
    case atStart => exact ⟨0, Nat.zero_le _, rfl, hkr⟩
    case round =>
      rename World => wq
      obtain ⟨d, hdl, rfl, hkq⟩ := hrel
      have hkwq : Kept [] w wq := keptTrans hkW hkq
      have ⟨LQ0, CQ0, FQ0⟩ := hkq.blk (by simp) B0
      have hca := (hkwq.cell ba _ hla (by simp)).trans HCA.out
      have hlaq : ba < wq.heap.size := Nat.lt_of_lt_of_le hla hkwq.size
      by_cases hltd : d < li
      case neg =>
        obtain rfl : d = li := by omega
        go_wp2_with fail
        exact ⟨⟨i + 1, by omega, by go_num, hkq⟩, by simp [intOf]; omega⟩
      obtain ⟨b, o, rfl, hl, hc⟩ := HRA.out (by omega)
      obtain ⟨⟨vk, vn⟩, hv⟩ : ∃ v, fa i d = v := ⟨_, rfl⟩
      have h1 := (hkwq.cell b _ hl (by simp)).trans (hc d hltd).1
      have h2 := (hkwq.cell b _ hl (by simp)).trans (hc d hltd).2
      rw [hv] at h1 h2
      have hlq : b < wq.heap.size := Nat.lt_of_lt_of_le hl hkwq.size
      have hd1 : (d : Int) < (li : Int) := by omega
      clear hv hc
      go_upto_region 8 with fail
      refine wp_named (fun V => ∃ gb, wq.heap.size = gb ∧ Blk V gb [.int .i64 vk, .int .i64 vn] ∧ Kept [] wq V) ⟨_, rfl, Blk.new _ _ _ _ rfl, (Kept.refl _ _).alloc _⟩ ?_
      rintro V ⟨gb, eg, Bg, hkV⟩
      rw [eg]
      have ⟨LG, CG, FG⟩ := Bg
      have hkwV := keptTrans hkwq hkV
      clear h1 h2 eg CQ0 FQ0 hca
      by_cases t1 : vk < 0
      · have d1 : decide (vk < 0) = true := by simpa using t1
        go_wp2_with fail
        go_ret
        exact ⟨.inr rfl, hkwV.toBelow⟩
      have d1 : decide (vk < 0) = false := by simpa using t1
      by_cases t2 : 2 < vk
      · have d2 : decide (2 < vk) = true := by simpa using t2
        go_wp2_with fail
        go_ret
        exact ⟨.inr rfl, hkwV.toBelow⟩
      have d2 : decide (2 < vk) = false := by simpa using t2
      by_cases t3 : vn = 0
      · have d3 : (vn != 0) = false := by simpa using t3
        clear t3
        go_wp2_with fail
        exact ⟨⟨d + 1, by omega, by go_num, keptTrans hkq hkV⟩, by simp [intOf]; omega⟩
      have d3 : (vn != 0) = true := by simpa using t3
      by_cases t4 : vk = 1
      · have d4 : (vk != 1) = false := by simpa using t4
        clear t4 t3
        go_wp2_with fail
        exact ⟨⟨d + 1, by omega, by go_num, keptTrans hkq hkV⟩, by simp [intOf]; omega⟩
      · have d4 : (vk != 1) = true := by simpa using t4
        clear t4 t3
        go_wp2_with fail
        go_ret
        exact ⟨.inr rfl, hkwV.toBelow⟩
end Go.Proofs.YtmjebjjhfoncfaaDoor
