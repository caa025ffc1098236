/- The contract of Check. -/
import Derived.Test.YthliphpcfnbmnaaF
namespace Go.Proofs.Ythliphpcfnbmnaa
open Go.RowKit Go.Df
attribute [local go_sem ↓] Go.wp_at_zero Go.wp_at_succ

set_option maxHeartbeats 400000 in
theorem check_main (A1 A2 : Option Addr) (n1 c1 n2 c2 : Nat) (r l : List Int) (w : World) (hr : Ints w A1 n1 r) (hl : Ints w A2 n2 l) (s1 : n1 ≤ 8192) (s2 : n2 ≤ 8192) (hp : 0 < n2) :
    Calls Try.prog 16 #[.agg #[.slice A1 n1 c1, .slice A2 n2 c2]] w fun e w' => e = .returned (.int .i64 (Wl.chk r l)) ∧ Below w.heap.size w w' := by
  have hz49 := zero49
  have h1 : decide ((8192 : Int) < n1) = false := by simp; omega
  have h2 : decide ((8192 : Int) < n2) = false := by simp; omega
  have HR := Lib.hid hr
  have HL := Lib.hid hl
  have Hr := Lib.hid hr.1
  have Hl := Lib.hid hl.1
  obtain ⟨b, o, rfl, hlt, hc⟩ := hl.at_ hp
  have HC := Lib.hid hc
  clear hr hl hc
  go_enter Try.func16, Try.ntmps16
  go_upto_region 1 with fail
  refine wp_named (fun W => ∃ b0, w.heap.size = b0 ∧ Blk W b0 [.slice A1 n1 c1, .slice (some ⟨b, o, none⟩) n2 c2] ∧ Below w.heap.size w W) ⟨_, rfl, ?_, ?_⟩ ?_
  · exact Blk.new _ _ _ _ (by first | rfl | simp)
  · go_grown
  rintro W ⟨b0, e0, B0, hB⟩
  rw [e0]
  have G0 : w.heap.size ≤ b0 := by omega
  clear e0
  have ⟨L0, C0, F0⟩ := B0
  go_upto_region 4 with fail
  refine wp_named (fun V => ∃ g, W.heap.size = g ∧ Wds V g (fun _ => 0) ∧ Kept [] W V) ⟨_, rfl, Wds.new W, (Kept.refl _ _).alloc _⟩ ?_
  rintro V ⟨g, eg, hwd, hkV⟩
  rw [eg]
  have Lg : b0 < g := by omega
  have hbg : b ≠ g := by have := hB.size; omega
  have n0g : b0 ≠ g := by omega
  have hBV := hkV.below hB hB.size (by simp)
  have BV := hkV.blk (by simp) B0
  have hlt' : b < V.heap.size := by have := hBV.size; omega
  have hcV : Hid (∀ i, i < n2 → V.cell? ⟨b, o + i, none⟩ = some (.int .i64 (gi l i))) := fun i hi => (hBV.cell (p := ⟨b, o + i, none⟩) hlt).trans (HC.out i hi)
  have hg0 : w.heap.size ≤ g := by have := hB.size; omega
  clear hkV hB B0 C0 F0 L0 G0 eg HC hlt
  have ⟨L0, C0, F0⟩ := BV
  go_wp2_with fail
  go_loopw [19] (fun i wr => ∃ (k : Nat) (f : Nat → Nat), k ≤ n2 ∧ i = .int .i64 k ∧ Kept [g] V wr ∧ Wds wr g f ∧ Hid (Wl.Bits f (l.take k)) ∧ Hid (∀ j, j < k → Wl.err r l j = 0)) (fun i _ => n2 - (intOf i).toNat)
  case atStart => exact ⟨0, _, Nat.zero_le _, rfl, Kept.refl _ _, hwd, Lib.hid Wl.bits_zero, Lib.hid (fun j hj => absurd hj (by omega))⟩
  case round =>
    obtain ⟨k, f, hk, rfl, hkw, hw, hbits, herr⟩ := hrel
    clear hwd
    have ⟨Lw, Cw, Fw⟩ := hkw.blk (by simpa using n0g) BV
    by_cases hkn : k < n2
    · have hcell : wr.cell? ⟨b, o + k, none⟩ = some (.int .i64 (gi l k)) := (hkw.cell b (o + k) hlt' (by simpa using hbg)).trans (hcV.out k hkn)
      by_cases hal : Wl.allowed n1 (gi l k) = false
      · go_wp2_with (go_at_call 25; refine (allowed_any _ _ _ _ _ _ _ _).mono ?_; rintro e w1 ⟨rfl, hb1⟩)
        go_ret
        refine ⟨ret_int ?_, (hkw.call hb1).below hBV hBV.size (by simpa using hg0)⟩
        have he : Wl.err r l k = 4 := by simp [Wl.err, Hr.out, hal]
        exact (Wl.chk_hit (by rw [Hr.out]; exact s1) (by rw [Hl.out]; exact s2) herr.out (by rw [Hl.out]; exact hkn) he (by omega)).symm
      · have hal : Wl.allowed n1 (gi l k) = true := by simpa using hal
        obtain ⟨x0, x1, x2⟩ := Wl.allowed_lt hal s1
        obtain ⟨x, hx⟩ := Int.eq_ofNat_of_zero_le x0
        rw [hx] at hcell hal x1 x2
        have HX := Lib.hid hx
        clear hx x0
        have hq : x / 64 < 1024 := by omega
        have hv := hbits.out.1 (x / 64)
        have hbt := bit_test (f (x / 64)) (x % 64) hv
        by_cases hin : (f (x / 64)).testBit (x % 64) = true
        · rw [hin] at hbt
          go_wp2_with (go_at_call 25; refine (allowed_any _ _ _ _ _ _ _ _).mono ?_; rintro e w1 ⟨rfl, hb1⟩; have hw1 := hw.later hb1; have hcg := hw1.2.1 _ hq)
          go_ret
          refine ⟨ret_int ?_, (hkw.call hb1).below hBV hBV.size (by simpa using hg0)⟩
          have hm := (hbits.out.2 x (by omega)).1 hin
          have he : Wl.err r l k = 7 := by
            unfold Wl.err
            rw [HX.out, Hr.out, hal]
            simp [hm]
          exact (Wl.chk_hit (by rw [Hr.out]; exact s1) (by rw [Hl.out]; exact s2) herr.out (by rw [Hl.out]; exact hkn) he (by omega)).symm
        · rw [Bool.not_eq_true] at hin
          rw [hin] at hbt
          have hni : ¬ (gi l k ∈ l.take k) := by
            rw [HX.out]; intro hm; have := (hbits.out.2 x (by omega)).2 hm; rw [hin] at this; cases this
          have HNI := Lib.hid hni
          clear hni
          by_cases hz : n1 = 0
          · have z1 : decide (0 < n1) = false := by simp; omega
            have z2 : decide ((0 : Int) < (n1 : Int)) = false := by simp; omega
            have he : Hid (Wl.err r l k = 0) := by
              show Wl.err r l k = 0
              unfold Wl.err
              rw [HX.out, Hr.out, hal, ← HX.out]
              simp [HNI.out, hz]
            have HZ := Lib.hid hz
            clear hz
            go_wp2_with (go_at_call 25; refine (allowed_any _ _ _ _ _ _ _ _).mono ?_; rintro e w1 ⟨rfl, hb1⟩; have hw1 := hw.later hb1; have hcg := hw1.2.1 _ hq; have hk1 : Kept [g] V w1 := hkw.call hb1; have ⟨Lw1, Cw1, Fw1⟩ := hk1.blk (by simpa using n0g) BV; have hfg := hw1.2.2 (x / 64))
            go_quiet (fail)
            go_wp2_with fail
            exact ⟨check_rel hkn Hl.out hk1 hw1 hbits.out HX.out herr.out he.out, by simp [intOf]; omega⟩
          · have z1 : decide (0 < n1) = true := by simp; omega
            have z2 : decide ((0 : Int) < (n1 : Int)) = true := by simp; omega
            have z3 : 0 < n1 := by omega
            by_cases hk0 : k = 0
            · have he : Hid (Wl.err r l k = 0) := by
                show Wl.err r l k = 0
                unfold Wl.err
                rw [HX.out, Hr.out, hal, ← HX.out]
                simp [hk0]
              have y1 : decide (0 < k) = false := by simp; omega
              have y2 : decide ((0 : Int) < (k : Int)) = false := by simp; omega
              have HK0 := Lib.hid hk0
              clear hk0
              go_wp2_with (go_at_call 25; refine (allowed_any _ _ _ _ _ _ _ _).mono ?_; rintro e w1 ⟨rfl, hb1⟩; have hw1 := hw.later hb1; have hcg := hw1.2.1 _ hq; have hk1 : Kept [g] V w1 := hkw.call hb1; have ⟨Lw1, Cw1, Fw1⟩ := hk1.blk (by simpa using n0g) BV; have hfg := hw1.2.2 (x / 64))
              go_quiet (fail)
              go_wp2_with fail
              exact ⟨check_rel hkn Hl.out hk1 hw1 hbits.out HX.out herr.out he.out, by simp [intOf]; omega⟩
            · have y1 : decide (0 < k) = true := by simp; omega
              have y2 : decide ((0 : Int) < (k : Int)) = true := by simp; omega
              have y3 : 0 < k := by omega
              have hprev := herr.out (k - 1) (by omega)
              have hal2 : Wl.allowed n1 (gi l (k - 1)) = true := by
                unfold Wl.err at hprev
                rw [Hr.out] at hprev
                by_cases h5 : Wl.allowed n1 (gi l (k - 1)) = false
                · rw [if_pos h5] at hprev; cases hprev
                · simpa using h5
              obtain ⟨p0, p1, p2⟩ := Wl.allowed_lt hal2 s1
              obtain ⟨y, hy⟩ := Int.eq_ofNat_of_zero_le p0
              have HY := Lib.hid hy
              rw [hy] at p2
              have p3 := p2 z3
              have x3 := x2 z3
              have hcellp : ∀ wx, Kept [g] V wx → wx.cell? ⟨b, o + (k - 1), none⟩ = some (.int .i64 (y : Int)) := fun wx hh => by
                rw [← HY.out]; exact (hh.cell b (o + (k - 1)) hlt' (by simpa using hbg)).trans (hcV.out (k - 1) (by omega))
              have HP := Lib.hid hcellp
              clear hcellp hprev hal2 p0 p1 p2 hy x2 hk0 hz
              by_cases hbf : Wl.before r (x : Int) (y : Int) = true
              · go_wp2_with (go_at_call 25; refine (allowed_any _ _ _ _ _ _ _ _).mono ?_; rintro e w1 ⟨rfl, hb1⟩; have hw1 := hw.later hb1; have hcg := hw1.2.1 _ hq; have hk1 : Kept [g] V w1 := hkw.call hb1; have ⟨Lw1, Cw1, Fw1⟩ := hk1.blk (by simpa using n0g) BV; have hfg := hw1.2.2 (x / 64); have hcp := HP.out _ hk1; have hrq : Hid (Ints w1 A1 n1 r) := Lib.hid (HR.out.later (hk1.below hBV hBV.size (by simpa using hg0))))
                go_quiet ((go_at_call 27; exact Calls.quiet_of (before_q _ _ _ r _ _ _ (show Ints (World.drewN w1 _) A1 n1 r from hrq.out) (by omega) (by omega) (by omega) (by omega))))
                go_wp2_with fail
                go_ret
                refine ⟨ret_int ?_, (hk1.drewN _).below hBV hBV.size (by simpa using hg0)⟩
                have he : Wl.err r l k = 13 := by
                  unfold Wl.err
                  rw [HX.out, Hr.out, hal, ← HX.out]
                  simp [HNI.out]
                  rw [HX.out, HY.out]
                  exact ⟨z3, y3, hbf⟩
                exact (Wl.chk_hit (by rw [Hr.out]; exact s1) (by rw [Hl.out]; exact s2) herr.out (by rw [Hl.out]; exact hkn) he (by omega)).symm
              · rw [Bool.not_eq_true] at hbf
                have he : Hid (Wl.err r l k = 0) := by
                  show Wl.err r l k = 0
                  unfold Wl.err
                  rw [HX.out, Hr.out, hal, ← HX.out]
                  simp [HNI.out]
                  rw [HX.out, HY.out]
                  intro _ _
                  exact hbf
                go_wp2_with (go_at_call 25; refine (allowed_any _ _ _ _ _ _ _ _).mono ?_; rintro e w1 ⟨rfl, hb1⟩; have hw1 := hw.later hb1; have hcg := hw1.2.1 _ hq; have hk1 : Kept [g] V w1 := hkw.call hb1; have ⟨Lw1, Cw1, Fw1⟩ := hk1.blk (by simpa using n0g) BV; have hfg := hw1.2.2 (x / 64); have hcp := HP.out _ hk1; have hrq : Hid (Ints w1 A1 n1 r) := Lib.hid (HR.out.later (hk1.below hBV hBV.size (by simpa using hg0))))
                go_quiet ((go_at_call 27; exact Calls.quiet_of (before_q _ _ _ r _ _ _ (show Ints (World.drewN w1 _) A1 n1 r from hrq.out) (by omega) (by omega) (by omega) (by omega))))
                go_wp2_with fail
                exact ⟨check_rel hkn Hl.out hk1 hw1 hbits.out HX.out herr.out he.out, by simp [intOf]; omega⟩
    · go_wp2
      go_ret
      refine ⟨ret_int ?_, hkw.below hBV hBV.size (by simpa using hg0)⟩
      exact (Wl.chk_ok (by rw [Hr.out]; exact s1) (by rw [Hl.out]; exact s2) (fun j hj => herr.out j (by rw [Hl.out] at hj; omega))).symm
end Go.Proofs.Ythliphpcfnbmnaa
