/- The contract of the program's seedsAt. -/
import Derived.Test.YtmjebjjhfoncfaaDoorEl
namespace Go.Proofs.YtmjebjjhfoncfaaDoor
open Go.RowKit Go.Df
attribute [local go_sem ↓] Go.wp_at_zero Go.wp_at_succ

set_option maxRecDepth 100000 in
set_option maxHeartbeats 4000000 in
theorem seedsAt_any (A1 A2 A3 A4 : Option Addr) (n1 c1 n2 c2 n3 c3 n4 c4 : Nat) (mn FF nd : Int) (sd : List Sp.Vs) (w : World) (hs : Vss w A4 n4 sd) (hn4 : n4 < 4611686018427387904) (hc4 : n4 ≤ c4) (hsrt : ∀ i j, i ≤ j → j < n4 → (Sp.gs sd i).n ≤ (Sp.gs sd j).n) :
    Calls Tryd.prog 46 #[.agg #[.slice A1 n1 c1, .slice A2 n2 c2, .int .i64 mn, .int .i64 FF, .slice A3 n3 c3, .slice A4 n4 c4], .int .i64 nd] w fun e w' =>
      ∃ (a m : Nat) (A' : Option Addr) (c' : Nat), e = .returned (.slice A' m c') ∧ a + m ≤ n4 ∧ (∀ j, j < a → (Sp.gs sd j).n ≠ nd) ∧ (∀ j, a ≤ j → j < a + m → (Sp.gs sd j).n = nd) ∧ (∀ j, a + m ≤ j → j < n4 → (Sp.gs sd j).n ≠ nd) ∧ (0 < m → ∃ b o, A4 = some ⟨b, o, none⟩ ∧ A' = some ⟨b, o + a * 4, none⟩) ∧ Below w.heap.size w w' := by
  have HS := Lib.hid hs
  have HR := Lib.hid hsrt
  clear hs hsrt
  go_enter Tryd.func46, Tryd.ntmps46
  go_upto_region 1 with fail
  refine wp_named (fun W => ∃ b0 b1, w.heap.size = b0 ∧ w.heap.size + 1 = b1 ∧ Blk W b0 [.slice A1 n1 c1, .slice A2 n2 c2, .int .i64 mn, .int .i64 FF, .slice A3 n3 c3, .slice A4 n4 c4] ∧ Blk W b1 [.int .i64 nd] ∧ Below w.heap.size w W) ⟨_, _, rfl, rfl, ?_, ?_, ?_⟩ ?_
  · exact (Blk.new _ _ _ _ (by first | rfl | simp)).alloc _
  · exact Blk.new _ _ _ _ (by first | rfl | simp)
  · go_grown
  rintro W ⟨b0, b1, e0, e1, B0, B1, hB⟩
  rw [e1, e0]
  have G0 : w.heap.size ≤ b0 := by omega
  have n01 : b0 ≠ b1 := by omega
  have G1 : w.heap.size ≤ b1 := by omega
  have n10 : b1 ≠ b0 := by omega
  clear e0 e1
  have ⟨L0, C0, F0⟩ := B0
  have ⟨L1, C1, F1⟩ := B1
  have hkW : Kept [] w W := (Kept.refl _ _).call hB
  have HFF : Hid (∀ (wr : World) (i : Nat), Kept [] W wr → i < n4 → Calls Tryd.prog 72 #[.int .i64 i, .pointer (some ⟨b0, 0, none⟩), .pointer (some ⟨b1, 0, none⟩)] wr fun e w' => e = .returned (.bool ((fun i => decide (nd ≤ (Sp.gs sd i).n)) i)) ∧ Below wr.heap.size wr w') := by
    intro wr i hk hi
    obtain ⟨b, o, rfl, hl, hc⟩ := HS.out.2 (by omega)
    exact sat1_any _ _ _ _ _ _ _ _ _ _ _ b o b0 b1 i mn FF nd _ wr (hk.blk (by simp) B0) (hk.blk (by simp) B1) hi (((keptTrans hkW hk).cell b _ hl (by simp)).trans (hc i hi).1)
  have HMM : Hid (∀ a b, a ≤ b → b < n4 → (fun i => decide (nd ≤ (Sp.gs sd i).n)) a = true → (fun i => decide (nd ≤ (Sp.gs sd i).n)) b = true) := fun a b h1 h2 h3 => by
    simp only [decide_eq_true_eq] at *
    have := HR.out a b h1 h2
    omega
  go_upto_region 2 with (go_at_call 71; refine (search_any b0 b1 n4 _ _ hn4 HFF.out HMM.out).mono ?_; rintro e w1 ⟨r, rfl, hr, hr1, hr2, hb1⟩)
  have hk1 : Kept [] W w1 := (Kept.refl _ _).call hb1
  have HR1 : Hid (∀ j, j < r → (Sp.gs sd j).n ≠ nd) := fun j hj => by have := hr1 j hj; simp at this; omega
  have HR2 : Hid (∀ j, r ≤ j → j < n4 → nd ≤ (Sp.gs sd j).n) := fun j h1 h2 => by have := hr2 j h1 h2; simpa using this
  clear hr1 hr2 HFF HMM C0 F0 C1 F1
  go_wp2_with fail
  go_loopw [6] (fun i wr => ∃ j : Nat, r ≤ j ∧ j ≤ n4 ∧ i = .int .i64 j ∧ Kept [] W wr ∧ Hid (∀ x, r ≤ x → x < j → (Sp.gs sd x).n = nd)) (fun i _ => n4 - (intOf i).toNat)
  case atStart => exact ⟨r, Nat.le_refl _, hr, rfl, hk1, Lib.hid (fun x h1 h2 => absurd h1 (by omega))⟩
  case round =>
    obtain ⟨j, hrj, hj, rfl, hkr, hall⟩ := hrel
    have ⟨L2, C2, F2⟩ := hkr.blk (by simp) B0
    have ⟨L3, C3, F3⟩ := hkr.blk (by simp) B1
    have hkwr : Kept [] w wr := keptTrans hkW hkr
    by_cases hlt : j < n4
    · obtain ⟨b, o, rfl, hl, hc⟩ := HS.out.2 (by omega)
      obtain ⟨sn, hsn⟩ : ∃ sn, (Sp.gs sd j).n = sn := ⟨_, rfl⟩
      have r1 : wr.cell? ⟨b, o + j * 4, none⟩ = some (.int .i64 sn) := by rw [← hsn]; exact (hkwr.cell b _ hl (by simp)).trans (hc j hlt).1
      have hlr : b < wr.heap.size := Nat.lt_of_lt_of_le hl hkwr.size
      have HSN := Lib.hid hsn
      clear hsn hc
      have hj1 : (j : Int) < (n4 : Int) := by omega
      by_cases hnd : sn = nd
      · have e1 : (sn == nd) = true := by simpa using hnd
        have HA : Hid (∀ x, r ≤ x → x < j + 1 → (Sp.gs sd x).n = nd) := fun x h1 h2 => by
          rcases Nat.lt_or_ge x j with h9 | h9
          · exact hall.out x h1 h9
          · obtain rfl : x = j := by omega
            rw [HSN.out]; exact hnd
        clear hnd
        go_upto_region 3 with fail
        go_quiet (fail)
        go_wp2_with fail
        exact ⟨⟨j + 1, by omega, by omega, by go_num, hkr.drewN _, HA⟩, by simp [intOf]; omega⟩
      · have e1 : (sn == nd) = false := by simpa using hnd
        have HA : Hid (∀ x, j ≤ x → x < n4 → (Sp.gs sd x).n ≠ nd) := fun x h1 h2 => by
          have h3 := HR.out j x h1 h2
          have h4 := HR2.out j hrj hlt
          rw [HSN.out] at h3 h4
          omega
        clear hnd
        have hjc : j ≤ c4 := by omega
        have hrc : ¬ c4 = r := by omega
        go_upto_region 3 with fail
        go_quiet (fail)
        go_wp2_with fail
        go_ret
        refine ⟨r, j - r, _, _, rfl, by omega, HR1.out, fun x h1 h2 => hall.out x h1 (by omega), fun x h1 h2 => HA.out x (by omega) h2, fun _ => ⟨b, o, rfl, ?_⟩, (hkwr.drewN _).toBelow⟩
        simp
    · obtain rfl : j = n4 := by omega
      have hjc : j ≤ c4 := by omega
      cases A4 with
      | none =>
        go_upto_region 3 with fail
        go_quiet (fail)
        go_wp2_with fail
        go_ret
        refine ⟨r, j - r, _, _, rfl, by omega, HR1.out, fun x h1 h2 => hall.out x h1 (by omega), fun x h1 h2 => absurd h2 (by omega), fun h0 => ?_, (hkwr.drewN _).toBelow⟩
        obtain ⟨b, o, e, -, -⟩ := HS.out.2 (by omega)
        cases e
      | some a =>
        by_cases hrc : c4 = r
        · obtain rfl : j = r := by omega
          subst hrc
          go_upto_region 3 with fail
          go_quiet (fail)
          go_wp2_with fail
          go_ret
          refine ⟨c4, 0, some a, 0, by simp, by omega, HR1.out, fun x h1 h2 => absurd h2 (by omega), fun x h1 h2 => absurd h2 (by omega), fun h0 => absurd h0 (by omega), (hkwr.drewN _).toBelow⟩
        go_upto_region 3 with fail
        go_quiet (fail)
        go_wp2_with fail
        go_ret
        refine ⟨r, j - r, _, _, rfl, by omega, HR1.out, fun x h1 h2 => hall.out x h1 (by omega), fun x h1 h2 => absurd h2 (by omega), fun h0 => ?_, (hkwr.drewN _).toBelow⟩
        obtain ⟨b, o, e, -, -⟩ := HS.out.2 (by omega)
        injection e with e
        subst e
        exact ⟨b, o, rfl, by simp [add_lit]⟩
end Go.Proofs.YtmjebjjhfoncfaaDoor
