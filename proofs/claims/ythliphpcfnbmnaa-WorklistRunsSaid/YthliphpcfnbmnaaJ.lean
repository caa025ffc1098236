/- The contract of the reference's Check. -/
import Derived.Test.YthliphpcfnbmnaaI
namespace Go.Proofs.Ythliphpcfnbmnaa
open Go.RowKit Go.Df
attribute [local go_sem ↓] Go.wp_at_zero Go.wp_at_succ
theorem err_step {r l : List Int} {k : Nat} (herr : ∀ j, j < k → Wl.err r l j = 0) (he : Wl.err r l k = 0) : ∀ j, j < k + 1 → Wl.err r l j = 0 := by
  intro j hj
  rcases Nat.lt_or_ge j k with h2 | h2
  · exact herr j h2
  · obtain rfl : j = k := by omega
    exact he
theorem Ints.take {w : World} {b o n k : Nat} {l : List Int} (h : ∀ i, i < n → w.cell? ⟨b, o + i, none⟩ = some (.int .i64 (gi l i))) (hb : b < w.heap.size) (hn : l.length = n) (hk : k ≤ n) : Ints w (some ⟨b, o, none⟩) k (l.take k) := by
  refine ⟨by rw [List.length_take]; omega, fun _ => ⟨b, o, rfl, hb, fun i hi => ?_⟩⟩
  rw [h i (by omega)]
  have e1 : gi (l.take k) i = gi l i := by
    rw [gi_lt (by rw [List.length_take]; omega), gi_lt (by omega), List.getElem_take]
  rw [e1]

set_option maxHeartbeats 400000 in
theorem rcheck_main (A1 A2 : Option Addr) (n1 c1 n2 c2 : Nat) (r l : List Int) (w : World) (hr : Ints w A1 n1 r) (hl : Ints w A2 n2 l) (s1 : n1 ≤ 8192) (s2 : n2 ≤ 8192) (hp : 0 < n2) (hcap : n2 ≤ c2) :
    Calls Try.prog 18 #[.agg #[.slice A1 n1 c1, .slice A2 n2 c2]] w fun e w' => e = .returned (.int .i64 (Wl.chk r l)) ∧ Below w.heap.size w w' := by
  have h1 : decide ((8192 : Int) < n1) = false := by simp; omega
  have h2 : decide ((8192 : Int) < n2) = false := by simp; omega
  have HR := Lib.hid hr
  have Hr := Lib.hid hr.1
  have Hl := Lib.hid hl.1
  obtain ⟨b, o, rfl, hlt, hc⟩ := hl.at_ hp
  have HC := Lib.hid hc
  clear hr hl hc
  go_enter Try.func18, Try.ntmps18
  go_upto_region 1 with fail
  refine wp_named (fun W => ∃ b0, w.heap.size = b0 ∧ Blk W b0 [.slice A1 n1 c1, .slice (some ⟨b, o, none⟩) n2 c2] ∧ Below w.heap.size w W) ⟨_, rfl, ?_, ?_⟩ ?_
  · exact Blk.new _ _ _ _ (by first | rfl | simp)
  · go_grown
  rintro W ⟨b0, e0, B0, hB⟩
  rw [e0]
  have G0 : w.heap.size ≤ b0 := by omega
  clear e0
  have ⟨L0, C0, F0⟩ := B0
  have hlt' : b < W.heap.size := by have := hB.size; omega
  have hcV : Hid (∀ i, i < n2 → W.cell? ⟨b, o + i, none⟩ = some (.int .i64 (gi l i))) := fun i hi => (hB.cell (p := ⟨b, o + i, none⟩) hlt).trans (HC.out i hi)
  have hrV : Hid (Ints W A1 n1 r) := HR.out.later hB
  clear HC HR hlt
  go_wp2_with fail
  go_loopw [3] (fun i wr => ∃ k : Nat, k ≤ n2 ∧ i = .int .i64 k ∧ Kept [] W wr ∧ Hid (∀ j, j < k → Wl.err r l j = 0)) (fun i _ => n2 - (intOf i).toNat)
  case atStart => exact ⟨0, Nat.zero_le _, rfl, Kept.refl _ _, Lib.hid (fun j hj => absurd hj (by omega))⟩
  case round =>
    obtain ⟨k, hk, rfl, hkw, herr⟩ := hrel
    have ⟨Lw, Cw, Fw⟩ := hkw.blk (by simp) B0
    by_cases hkn : k < n2
    · have hcell : wr.cell? ⟨b, o + k, none⟩ = some (.int .i64 (gi l k)) := (hkw.cell b (o + k) hlt' (by simp)).trans (hcV.out k hkn)
      by_cases hal : Wl.allowed n1 (gi l k) = false
      · go_wp2_with (go_at_call 29; refine (item_any _ _ _ _ _).mono ?_; rintro e w1 ⟨rfl, hb1⟩)
        go_ret
        refine ⟨ret_int ?_, (hkw.call hb1).below hB hB.size (by simp)⟩
        have he : Wl.err r l k = 4 := by simp [Wl.err, Hr.out, hal]
        exact (Wl.chk_hit (by rw [Hr.out]; exact s1) (by rw [Hl.out]; exact s2) herr.out (by rw [Hl.out]; exact hkn) he (by omega)).symm
      · have hal : Wl.allowed n1 (gi l k) = true := by simpa using hal
        have HT : Hid (∀ wx, Kept [] W wx → Ints wx (some ⟨b, o, none⟩) k (l.take k)) := fun wx hh =>
          Ints.take (n := n2) (fun i hi => (hh.cell b (o + i) hlt' (by simp)).trans (hcV.out i hi)) (Nat.lt_of_lt_of_le hlt' hh.size) Hl.out (by omega)
        by_cases hin : gi l k ∈ l.take k
        · have hge : decide (0 ≤ Wl.index (l.take k) (gi l k)) = true := by simpa using (Wl.index_nonneg _ _).2 hin
          have HIN := Lib.hid hin
          clear hin
          go_wp2_with (first | (go_at_call 29; refine (item_any _ _ _ _ _).mono ?_; rintro e w1 ⟨rfl, hb1⟩; have hk1 : Kept [] W w1 := hkw.call hb1; have ⟨Lw1, Cw1, Fw1⟩ := hk1.blk (by simp) B0) | (go_at_call 30; refine (at_any _ _ _ (l.take k) _ _ (HT.out _ hk1) (by omega)).mono ?_; rintro e w2 ⟨rfl, rfl⟩))
          go_ret
          refine ⟨ret_int ?_, hk1.below hB hB.size (by simp)⟩
          have he : Wl.err r l k = 7 := by
            unfold Wl.err
            rw [Hr.out, hal]
            simp [HIN.out]
          exact (Wl.chk_hit (by rw [Hr.out]; exact s1) (by rw [Hl.out]; exact s2) herr.out (by rw [Hl.out]; exact hkn) he (by omega)).symm
        · have hge : decide (0 ≤ Wl.index (l.take k) (gi l k)) = false := by
            simp only [decide_eq_false_iff_not]; exact fun h => hin ((Wl.index_nonneg _ _).1 h)
          have HNI := Lib.hid hin
          clear hin
          obtain ⟨x0, x1, x2⟩ := Wl.allowed_lt hal s1
          obtain ⟨x, hx⟩ := Int.eq_ofNat_of_zero_le x0
          by_cases hz : n1 = 0
          · have z1 : decide (0 < n1) = false := by simp; omega
            have z2 : decide ((0 : Int) < (n1 : Int)) = false := by simp; omega
            have he : Hid (Wl.err r l k = 0) := by
              show Wl.err r l k = 0
              unfold Wl.err
              rw [Hr.out, hal]
              simp [HNI.out, hz]
            clear hz hx x2
            go_wp2_with (first | (go_at_call 29; refine (item_any _ _ _ _ _).mono ?_; rintro e w1 ⟨rfl, hb1⟩; have hk1 : Kept [] W w1 := hkw.call hb1; have ⟨Lw1, Cw1, Fw1⟩ := hk1.blk (by simp) B0) | (go_at_call 30; refine (at_any _ _ _ (l.take k) _ _ (HT.out _ hk1) (by omega)).mono ?_; rintro e w2 ⟨rfl, rfl⟩))
            go_quiet (fail)
            go_wp2_with fail
            exact ⟨⟨k + 1, by omega, by go_num, hk1.drewN _, Lib.hid (err_step herr.out he.out)⟩, by simp [intOf]; omega⟩
          · have z1 : decide (0 < n1) = true := by simp; omega
            have z2 : decide ((0 : Int) < (n1 : Int)) = true := by simp; omega
            have z3 : 0 < n1 := by omega
            by_cases hk0 : k = 0
            · have he : Hid (Wl.err r l k = 0) := by
                show Wl.err r l k = 0
                unfold Wl.err
                rw [Hr.out, hal]
                simp [hk0]
              have y1 : decide (0 < k) = false := by simp; omega
              have y2 : decide ((0 : Int) < (k : Int)) = false := by simp; omega
              clear hk0 hz hx x2
              go_wp2_with (first | (go_at_call 29; refine (item_any _ _ _ _ _).mono ?_; rintro e w1 ⟨rfl, hb1⟩; have hk1 : Kept [] W w1 := hkw.call hb1; have ⟨Lw1, Cw1, Fw1⟩ := hk1.blk (by simp) B0) | (go_at_call 30; refine (at_any _ _ _ (l.take k) _ _ (HT.out _ hk1) (by omega)).mono ?_; rintro e w2 ⟨rfl, rfl⟩))
              go_quiet (fail)
              go_wp2_with fail
              exact ⟨⟨k + 1, by omega, by go_num, hk1.drewN _, Lib.hid (err_step herr.out he.out)⟩, by simp [intOf]; omega⟩
            · have y1 : decide (0 < k) = true := by simp; omega
              have y2 : decide ((0 : Int) < (k : Int)) = true := by simp; omega
              have y3 : 0 < k := by omega
              have hprev := herr.out (k - 1) (by omega)
              have hal2 : Wl.allowed n1 (gi l (k - 1)) = true := by
                unfold Wl.err at hprev
                rw [Hr.out] at hprev
                by_cases h5 : Wl.allowed n1 (gi l (k - 1)) = false
                · rw [if_pos h5] at hprev; cases hprev
                · simpa using h5
              obtain ⟨p0, p1, p2⟩ := Wl.allowed_lt hal2 s1
              have p3 := p2 z3
              have x3 := x2 z3
              have HP : Hid (∀ wx, Kept [] W wx → wx.cell? ⟨b, o + (k - 1), none⟩ = some (.int .i64 (gi l (k - 1)))) := fun wx hh =>
                (hh.cell b (o + (k - 1)) hlt' (by simp)).trans (hcV.out (k - 1) (by omega))
              clear hprev hal2 p2 hx x2 hk0 hz
              by_cases hbf : Wl.before r (gi l k) (gi l (k - 1)) = true
              · have he : Hid (Wl.err r l k = 13) := by
                  show Wl.err r l k = 13
                  unfold Wl.err
                  rw [Hr.out, hal]
                  simp [HNI.out]
                  exact ⟨z3, y3, hbf⟩
                go_wp2_with (first | (go_at_call 29; refine (item_any _ _ _ _ _).mono ?_; rintro e w1 ⟨rfl, hb1⟩; have hk1 : Kept [] W w1 := hkw.call hb1; have ⟨Lw1, Cw1, Fw1⟩ := hk1.blk (by simp) B0) | (go_at_call 30; refine (at_any _ _ _ (l.take k) _ _ (HT.out _ hk1) (by omega)).mono ?_; rintro e w2 ⟨rfl, rfl⟩; have hcp := HP.out _ hk1; have hrq : Hid (Ints w1 A1 n1 r) := Lib.hid (hrV.out.kept hk1)))
                go_quiet ((go_at_call 24; exact Calls.quiet_of (rbefore_q _ _ _ r _ _ _ (show Ints (World.drewN w1 _) A1 n1 r from hrq.out) (by omega) (by omega) (by omega) (by omega))))
                go_wp2_with fail
                go_ret
                refine ⟨ret_int ?_, (hk1.drewN _).below hB hB.size (by simp)⟩
                exact (Wl.chk_hit (by rw [Hr.out]; exact s1) (by rw [Hl.out]; exact s2) herr.out (by rw [Hl.out]; exact hkn) he.out (by omega)).symm
              · rw [Bool.not_eq_true] at hbf
                have he : Hid (Wl.err r l k = 0) := by
                  show Wl.err r l k = 0
                  unfold Wl.err
                  rw [Hr.out, hal]
                  simp [HNI.out]
                  intro _ _
                  exact hbf
                go_wp2_with (first | (go_at_call 29; refine (item_any _ _ _ _ _).mono ?_; rintro e w1 ⟨rfl, hb1⟩; have hk1 : Kept [] W w1 := hkw.call hb1; have ⟨Lw1, Cw1, Fw1⟩ := hk1.blk (by simp) B0) | (go_at_call 30; refine (at_any _ _ _ (l.take k) _ _ (HT.out _ hk1) (by omega)).mono ?_; rintro e w2 ⟨rfl, rfl⟩; have hcp := HP.out _ hk1; have hrq : Hid (Ints w1 A1 n1 r) := Lib.hid (hrV.out.kept hk1)))
                go_quiet ((go_at_call 24; exact Calls.quiet_of (rbefore_q _ _ _ r _ _ _ (show Ints (World.drewN w1 _) A1 n1 r from hrq.out) (by omega) (by omega) (by omega) (by omega))))
                go_wp2_with fail
                exact ⟨⟨k + 1, by omega, by go_num, hk1.drewN _, Lib.hid (err_step herr.out he.out)⟩, by simp [intOf]; omega⟩
    · go_wp2_with fail
      go_ret
      refine ⟨ret_int ?_, hkw.below hB hB.size (by simp)⟩
      exact (Wl.chk_ok (by rw [Hr.out]; exact s1) (by rw [Hl.out]; exact s2) (fun j hj => herr.out j (by rw [Hl.out] at hj; omega))).symm
end Go.Proofs.Ythliphpcfnbmnaa
