/- The walk of WorklistTells. -/
import Derived.Test.YthliphpcfnbmnaaCu
namespace Go.Proofs.Ythliphpcfnbmnaa
open Go.RowKit Go.Df
attribute [local go_sem ↓] Go.wp_at_zero Go.wp_at_succ

theorem keptTrans {W V U : World} (h : Kept [] W V) (k : Kept [] V U) : Kept [] W U := kept_fresh h k (by simp)
theorem SIn.lenle {w : World} {A : Option Addr} {n c : Nat} {xs : List Int} (h : SIn w A n c xs) : n ≤ 9223372036854775807 := Nat.le_trans h.2.1 h.2.2.1

set_option maxRecDepth 100000 in
set_option maxHeartbeats 2000000 in
theorem tells_any (A1 A2 : Option Addr) (n1 c1 n2 c2 : Nat) (r l : List Int) (x : Int) (w : World) (hr : SIn w A1 n1 c1 r) (hl : SIn w A2 n2 c2 l) :
    Calls Try.prog 6 #[.agg #[.slice A1 n1 c1, .slice A2 n2 c2], .int .i64 x] w fun e w' => e = .returned (.bool true) ∧ Below w.heap.size w w' := by
  have hl3 := hl.2.1
  have Hl := Lib.hid hl.1.1
  have HR := Lib.hid hr
  have HL := Lib.hid hl
  clear hr hl
  by_cases t2 : 300 < n2
  · have d2 : decide ((300 : Int) < n2) = true := by simp; omega
    go_enter Try.func6, Try.ntmps6
    go_upto_region 1 with fail
    refine wp_named (fun W => ∃ b0, w.heap.size = b0 ∧ Blk W b0 [.slice A1 n1 c1, .slice A2 n2 c2] ∧ Below w.heap.size w W) ⟨_, rfl, ?_, ?_⟩ ?_
    · exact Blk.new _ _ _ _ (by first | rfl | simp)
    · go_grown
    rintro W ⟨b0, e0, B0, hB⟩
    rw [e0]
    have G0 : w.heap.size ≤ b0 := by omega
    clear e0
    have ⟨L0, C0, F0⟩ := B0
    go_wp2_with fail
    refine (awake_any _).mono ?_
    rintro e w1 ⟨rfl, hb1⟩
    go_wp2_with fail
    go_ret
    exact ⟨rfl, below_step hB.size hB hb1⟩
  have d2 : decide ((300 : Int) < n2) = false := by simp; omega
  by_cases t1 : 8200 < n1
  · have d1 : decide ((8200 : Int) < n1) = true := by simp; omega
    go_enter Try.func6, Try.ntmps6
    go_upto_region 1 with fail
    refine wp_named (fun W => ∃ b0, w.heap.size = b0 ∧ Blk W b0 [.slice A1 n1 c1, .slice A2 n2 c2] ∧ Below w.heap.size w W) ⟨_, rfl, ?_, ?_⟩ ?_
    · exact Blk.new _ _ _ _ (by first | rfl | simp)
    · go_grown
    rintro W ⟨b0, e0, B0, hB⟩
    rw [e0]
    have G0 : w.heap.size ≤ b0 := by omega
    clear e0
    have ⟨L0, C0, F0⟩ := B0
    go_wp2_with fail
    refine (awake_any _).mono ?_
    rintro e w1 ⟨rfl, hb1⟩
    go_wp2_with fail
    go_ret
    exact ⟨rfl, below_step hB.size hB hb1⟩
  have d1 : decide ((8200 : Int) < n1) = false := by simp; omega
  go_enter Try.func6, Try.ntmps6
  go_upto_region 1 with fail
  refine wp_named (fun W => ∃ b0, w.heap.size = b0 ∧ Blk W b0 [.slice A1 n1 c1, .slice A2 n2 c2] ∧ Below w.heap.size w W) ⟨_, rfl, ?_, ?_⟩ ?_
  · exact Blk.new _ _ _ _ (by first | rfl | simp)
  · go_grown
  rintro W ⟨b0, e0, B0, hB⟩
  rw [e0]
  have G0 : w.heap.size ≤ b0 := by omega
  clear e0
  have ⟨L0, C0, F0⟩ := B0
  have HRW := Lib.hid (HR.out.later hB)
  have HLW := Lib.hid (HL.out.later hB)
  have HRI := Lib.hid HRW.out.1
  have HLI := Lib.hid HLW.out.1
  go_upto_region 3 with fail
  go_cut [31] (fun s wx => s = .bool false ∧ Kept [] W wx)
  case first =>
    go_region_held3 (fun w' => SX0 W w') (repeat' first | (with_reducible assumption) | (with_reducible exact SX0.init _) | (with_reducible exact SX0.refl _) | (with_reducible refine SX0.alloc ?_ _) | (with_reducible refine SX0.call ?_ (by assumption)) | (with_reducible refine SX0.set ?_ _ _ _ ?_) | (with_reducible refine SX0.drew ?_) | (simp; done) | omega | (simp; omega))
      (first | (go_at_call 16; ((with_reducible refine (check_any _ _ _ _ _ _ r l _ (HRI.out.kept (by first | exact (by assumption : SX0 W _).1)) (HLI.out.kept (by first | exact (by assumption : SX0 W _).1))).mono ?_)); rintro e w3 ⟨rfl, hb3⟩; obtain ⟨hc3, hf3, hg3⟩ := bcell hb3; have hz3 := hb3.size; try simp at hz3) | (go_at_call 18; ((with_reducible refine (rcheck_any _ _ _ _ _ _ r l _ (HRI.out.kept (by first | exact (by assumption : SX0 W _).1)) (HLI.out.kept (by first | exact (by assumption : SX0 W _).1)) hl3).mono ?_)); rintro e w4 ⟨rfl, hb4⟩; obtain ⟨hc4, hf4, hg4⟩ := bcell hb4; have hz4 := hb4.size; try simp at hz4))
    all_goals
      go_wp2_with fail
      go_meet
      refine ⟨by simp, ?_⟩
      (repeat' first | (with_reducible assumption) | (with_reducible exact Kept.refl _ _) | (with_reducible refine Kept.alloc ?_ _) | (with_reducible refine Kept.call ?_ (by assumption)) | (with_reducible refine Kept.set ?_ _ _ _ (Or.inr ?_)) | (with_reducible refine Kept.drew ?_) | (simp; done) | omega | (simp; omega))
  case rest =>
    obtain ⟨rfl, hkc⟩ := hcut
    have hB' := hkc.below hB hB.size (by simp)
    have HQ1 := Lib.hid (HRW.out.kept hkc)
    have HQ2 := Lib.hid (HLW.out.kept hkc)
    have Bb0 := hkc.blk (by simp) B0
    clear B0 L0 C0 F0 HRW HLW HRI HLI hkc hB
    have hB := hB'
    clear hB'
    have ⟨Lb0, Cb0, Fb0⟩ := Bb0
    go_wp2_with fail
    refine (push_u HQ1.out HQ2.out x).mono ?_
    rintro e w1 ⟨A3, n3, c3, A4, n4, c4, rfl, hx1, hx2, hb_w1, hf3, hf4⟩
    have hk_w1 : Kept [] wc w1 := (Kept.refl _ _).call hb_w1
    have HP1 := Lib.hid hx1
    have HP2 := Lib.hid hx2
    clear hx1 hx2 hf3 hf4
    go_upto_region 6 with fail
    refine wp_named (fun V => ∃ g, w1.heap.size = g ∧ Blk V g [.slice A3 n3 c3, .slice A4 n4 c4] ∧ Kept [] w1 V) ⟨_, rfl, Blk.new _ _ _ _ rfl, (Kept.refl _ _).alloc _⟩ ?_
    rintro U1 ⟨g1, eq_g1, Bg1, hkV⟩
    rw [eq_g1]
    have hkR : Kept [] wc U1 := keptTrans hk_w1 hkV
    have Bb0' := hkR.blk (by simp) Bb0
    have d_b0_g1 : b0 < g1 := by have := hk_w1.size; omega
    have HQ1' := Lib.hid (HQ1.out.kept hkR)
    have HQ2' := Lib.hid (HQ2.out.kept hkR)
    have HP1 := Lib.hid (HP1.out.kept hkV)
    have HP2 := Lib.hid (HP2.out.kept hkV)
    have hB' : Below w.heap.size w U1 := hkR.below hB hB.size (by simp)
    clear Bb0 Lb0 Cb0 Fb0 HQ1 HQ2 hB hkR hkV eq_g1 hk_w1
    have Bb0 := Bb0'
    have HQ1 := HQ1'
    have HQ2 := HQ2'
    have hB := hB'
    clear Bb0' HQ1' HQ2' hB'
    have ⟨Lb0, Cb0, Fb0⟩ := Bb0
    have ⟨Lg1, Cg1, Fg1⟩ := Bg1
    go_wp2_with fail
    refine (rpush_u HQ1.out HQ2.out x).mono ?_
    rintro e w2 ⟨A5, n5, c5, A6, n6, c6, rfl, hx1, hx2, hb_w2⟩
    have hk_w2 : Kept [] U1 w2 := (Kept.refl _ _).call hb_w2
    have HS1 := Lib.hid hx1
    have HS2 := Lib.hid hx2
    clear hx1 hx2
    go_upto_region 7 with fail
    refine wp_named (fun V => ∃ g, w2.heap.size = g ∧ Blk V g [.slice A5 n5 c5, .slice A6 n6 c6] ∧ Kept [] w2 V) ⟨_, rfl, Blk.new _ _ _ _ rfl, (Kept.refl _ _).alloc _⟩ ?_
    rintro U2 ⟨g2, eq_g2, Bg2, hkV⟩
    rw [eq_g2]
    have hkR : Kept [] U1 U2 := keptTrans hk_w2 hkV
    have Bb0' := hkR.blk (by simp) Bb0
    have d_b0_g2 : b0 < g2 := by have := hk_w2.size; omega
    have Bg1' := hkR.blk (by simp) Bg1
    have d_g1_g2 : g1 < g2 := by have := hk_w2.size; omega
    have HQ1' := Lib.hid (HQ1.out.kept hkR)
    have HQ2' := Lib.hid (HQ2.out.kept hkR)
    have HP1' := Lib.hid (HP1.out.kept hkR)
    have HP2' := Lib.hid (HP2.out.kept hkR)
    have HS1 := Lib.hid (HS1.out.kept hkV)
    have HS2 := Lib.hid (HS2.out.kept hkV)
    have hB' : Below w.heap.size w U2 := hkR.below hB hB.size (by simp)
    clear Bb0 Lb0 Cb0 Fb0 Bg1 Lg1 Cg1 Fg1 HQ1 HQ2 HP1 HP2 hB hkR hkV eq_g2 hk_w2
    have Bb0 := Bb0'
    have Bg1 := Bg1'
    have HQ1 := HQ1'
    have HQ2 := HQ2'
    have HP1 := HP1'
    have HP2 := HP2'
    have hB := hB'
    clear Bb0' Bg1' HQ1' HQ2' HP1' HP2' hB'
    have ⟨Lb0, Cb0, Fb0⟩ := Bb0
    have ⟨Lg1, Cg1, Fg1⟩ := Bg1
    have ⟨Lg2, Cg2, Fg2⟩ := Bg2
    go_wp2_with fail
    refine (same_any _ _ _ _ _ _ _ _ _ _ _ _ _ _ _ _ _ HP1.out.1 HP2.out.1 HS1.out.1 HS2.out.1 HP1.out.lenle HP2.out.lenle HS1.out.lenle HS2.out.lenle).mono ?_
    rintro e w3 ⟨rfl, hb_w3⟩
    have hk_w3 : Kept [] U2 w3 := (Kept.refl _ _).call hb_w3
    simp only [decide_true, Bool.and_self]
    have ⟨hc3, hf3, hg3⟩ := hk_w3.rules
    go_wp2_with fail
    refine (pop_u (HQ1.out.kept hk_w3) (HQ2.out.kept hk_w3)).mono ?_
    rintro e w4 ⟨A7, n7, c7, A8, n8, c8, rfl, hx1, hx2, hb_w4, hf7, hf8⟩
    have hk_w4 : Kept [] U2 w4 := (hk_w3).call hb_w4
    have HO1 := Lib.hid hx1
    have HO2 := Lib.hid hx2
    clear hx1 hx2 hf7 hf8 hc3 hf3 hg3
    go_upto_region 10 with fail
    refine wp_named (fun V => ∃ g, w4.heap.size = g ∧ Blk V g [.slice A7 n7 c7, .slice A8 n8 c8] ∧ Kept [] w4 V) ⟨_, rfl, Blk.new _ _ _ _ rfl, (Kept.refl _ _).alloc _⟩ ?_
    rintro U3 ⟨g3, eq_g3, Bg3, hkV⟩
    rw [eq_g3]
    have hkR : Kept [] U2 U3 := keptTrans hk_w4 hkV
    have Bb0' := hkR.blk (by simp) Bb0
    have d_b0_g3 : b0 < g3 := by have := hk_w4.size; omega
    have Bg1' := hkR.blk (by simp) Bg1
    have d_g1_g3 : g1 < g3 := by have := hk_w4.size; omega
    have Bg2' := hkR.blk (by simp) Bg2
    have d_g2_g3 : g2 < g3 := by have := hk_w4.size; omega
    have HQ1' := Lib.hid (HQ1.out.kept hkR)
    have HQ2' := Lib.hid (HQ2.out.kept hkR)
    have HP1' := Lib.hid (HP1.out.kept hkR)
    have HP2' := Lib.hid (HP2.out.kept hkR)
    have HS1' := Lib.hid (HS1.out.kept hkR)
    have HS2' := Lib.hid (HS2.out.kept hkR)
    have HO1 := Lib.hid (HO1.out.kept hkV)
    have HO2 := Lib.hid (HO2.out.kept hkV)
    have hB' : Below w.heap.size w U3 := hkR.below hB hB.size (by simp)
    clear Bb0 Lb0 Cb0 Fb0 Bg1 Lg1 Cg1 Fg1 Bg2 Lg2 Cg2 Fg2 HQ1 HQ2 HP1 HP2 HS1 HS2 hB hkR hkV eq_g3 hk_w4
    have Bb0 := Bb0'
    have Bg1 := Bg1'
    have Bg2 := Bg2'
    have HQ1 := HQ1'
    have HQ2 := HQ2'
    have HP1 := HP1'
    have HP2 := HP2'
    have HS1 := HS1'
    have HS2 := HS2'
    have hB := hB'
    clear Bb0' Bg1' Bg2' HQ1' HQ2' HP1' HP2' HS1' HS2' hB'
    have ⟨Lb0, Cb0, Fb0⟩ := Bb0
    have ⟨Lg1, Cg1, Fg1⟩ := Bg1
    have ⟨Lg2, Cg2, Fg2⟩ := Bg2
    have ⟨Lg3, Cg3, Fg3⟩ := Bg3
    go_wp2_with fail
    refine (rpop_u HQ1.out HQ2.out).mono ?_
    rintro e w5 ⟨A9, n9, c9, A10, n10, c10, rfl, hx1, hx2, hb_w5⟩
    have hk_w5 : Kept [] U3 w5 := (Kept.refl _ _).call hb_w5
    have HT1 := Lib.hid hx1
    have HT2 := Lib.hid hx2
    clear hx1 hx2
    go_upto_region 11 with fail
    refine wp_named (fun V => ∃ g, w5.heap.size = g ∧ Blk V g [.slice A9 n9 c9, .slice A10 n10 c10] ∧ Kept [] w5 V) ⟨_, rfl, Blk.new _ _ _ _ rfl, (Kept.refl _ _).alloc _⟩ ?_
    rintro U4 ⟨g4, eq_g4, Bg4, hkV⟩
    rw [eq_g4]
    have hkR : Kept [] U3 U4 := keptTrans hk_w5 hkV
    have Bb0' := hkR.blk (by simp) Bb0
    have d_b0_g4 : b0 < g4 := by have := hk_w5.size; omega
    have Bg1' := hkR.blk (by simp) Bg1
    have d_g1_g4 : g1 < g4 := by have := hk_w5.size; omega
    have Bg2' := hkR.blk (by simp) Bg2
    have d_g2_g4 : g2 < g4 := by have := hk_w5.size; omega
    have Bg3' := hkR.blk (by simp) Bg3
    have d_g3_g4 : g3 < g4 := by have := hk_w5.size; omega
    have HQ1' := Lib.hid (HQ1.out.kept hkR)
    have HQ2' := Lib.hid (HQ2.out.kept hkR)
    have HP1' := Lib.hid (HP1.out.kept hkR)
    have HP2' := Lib.hid (HP2.out.kept hkR)
    have HS1' := Lib.hid (HS1.out.kept hkR)
    have HS2' := Lib.hid (HS2.out.kept hkR)
    have HO1' := Lib.hid (HO1.out.kept hkR)
    have HO2' := Lib.hid (HO2.out.kept hkR)
    have HT1 := Lib.hid (HT1.out.kept hkV)
    have HT2 := Lib.hid (HT2.out.kept hkV)
    have hB' : Below w.heap.size w U4 := hkR.below hB hB.size (by simp)
    clear Bb0 Lb0 Cb0 Fb0 Bg1 Lg1 Cg1 Fg1 Bg2 Lg2 Cg2 Fg2 Bg3 Lg3 Cg3 Fg3 HQ1 HQ2 HP1 HP2 HS1 HS2 HO1 HO2 hB hkR hkV eq_g4 hk_w5
    have Bb0 := Bb0'
    have Bg1 := Bg1'
    have Bg2 := Bg2'
    have Bg3 := Bg3'
    have HQ1 := HQ1'
    have HQ2 := HQ2'
    have HP1 := HP1'
    have HP2 := HP2'
    have HS1 := HS1'
    have HS2 := HS2'
    have HO1 := HO1'
    have HO2 := HO2'
    have hB := hB'
    clear Bb0' Bg1' Bg2' Bg3' HQ1' HQ2' HP1' HP2' HS1' HS2' HO1' HO2' hB'
    have ⟨Lb0, Cb0, Fb0⟩ := Bb0
    have ⟨Lg1, Cg1, Fg1⟩ := Bg1
    have ⟨Lg2, Cg2, Fg2⟩ := Bg2
    have ⟨Lg3, Cg3, Fg3⟩ := Bg3
    have ⟨Lg4, Cg4, Fg4⟩ := Bg4
    go_wp2_with fail
    refine (same_any _ _ _ _ _ _ _ _ _ _ _ _ _ _ _ _ _ HO1.out.1 HO2.out.1 HT1.out.1 HT2.out.1 HO1.out.lenle HO2.out.lenle HT1.out.lenle HT2.out.lenle).mono ?_
    rintro e w6 ⟨rfl, hb_w6⟩
    have hk_w6 : Kept [] U4 w6 := (Kept.refl _ _).call hb_w6
    simp only [decide_true, Bool.and_self]
    have ⟨hc6, hf6, hg6⟩ := hk_w6.rules
    go_wp2_with fail
    refine (rcheck_any _ _ _ _ _ _ _ _ _ (HQ1.out.kept hk_w6).1 (HQ2.out.kept hk_w6).1 hl3).mono ?_
    rintro e w7 ⟨rfl, hb_w7⟩
    have hk_w7 : Kept [] U4 w7 := (hk_w6).call hb_w7
    have ⟨hc7, hf7, hg7⟩ := hk_w7.rules
    by_cases hz : Wl.chk r l = 0
    · rw [hz]
      have HZ := Lib.hid hz
      clear hz hc6 hf6 hg6 hc7 hf7 hg7 hb_w7
      have Bb0' := hk_w7.blk (by simp) Bb0
      have Bg1' := hk_w7.blk (by simp) Bg1
      have Bg2' := hk_w7.blk (by simp) Bg2
      have Bg3' := hk_w7.blk (by simp) Bg3
      have Bg4' := hk_w7.blk (by simp) Bg4
      have HQ1' := Lib.hid (HQ1.out.kept hk_w7)
      have HQ2' := Lib.hid (HQ2.out.kept hk_w7)
      have HP1' := Lib.hid (HP1.out.kept hk_w7)
      have HP2' := Lib.hid (HP2.out.kept hk_w7)
      have HS1' := Lib.hid (HS1.out.kept hk_w7)
      have HS2' := Lib.hid (HS2.out.kept hk_w7)
      have HO1' := Lib.hid (HO1.out.kept hk_w7)
      have HO2' := Lib.hid (HO2.out.kept hk_w7)
      have HT1' := Lib.hid (HT1.out.kept hk_w7)
      have HT2' := Lib.hid (HT2.out.kept hk_w7)
      have hB' : Below w.heap.size w w7 := hk_w7.below hB hB.size (by simp)
      clear Bb0 Lb0 Cb0 Fb0 Bg1 Lg1 Cg1 Fg1 Bg2 Lg2 Cg2 Fg2 Bg3 Lg3 Cg3 Fg3 Bg4 Lg4 Cg4 Fg4 HQ1 HQ2 HP1 HP2 HS1 HS2 HO1 HO2 HT1 HT2 hB hk_w7
      have Bb0 := Bb0'
      have Bg1 := Bg1'
      have Bg2 := Bg2'
      have Bg3 := Bg3'
      have Bg4 := Bg4'
      have HQ1 := HQ1'
      have HQ2 := HQ2'
      have HP1 := HP1'
      have HP2 := HP2'
      have HS1 := HS1'
      have HS2 := HS2'
      have HO1 := HO1'
      have HO2 := HO2'
      have HT1 := HT1'
      have HT2 := HT2'
      have hB := hB'
      clear Bb0' Bg1' Bg2' Bg3' Bg4' HQ1' HQ2' HP1' HP2' HS1' HS2' HO1' HO2' HT1' HT2' hB'
      have ⟨Lb0, Cb0, Fb0⟩ := Bb0
      have ⟨Lg1, Cg1, Fg1⟩ := Bg1
      have ⟨Lg2, Cg2, Fg2⟩ := Bg2
      have ⟨Lg3, Cg3, Fg3⟩ := Bg3
      have ⟨Lg4, Cg4, Fg4⟩ := Bg4
      have HI2 := Lib.hid HQ2.out.1
      have hlen : Hid (n2 ≤ 1000000) := Lib.hid (by omega)
      go_upto_region 15 with fail
      go_cut [15] (fun s wx => s = .bool (decide (x ∈ l)) ∧ Kept [] w7 wx)
      case first =>
        go_region_held3 (fun w' => SX0 w7 w') (repeat' first | (with_reducible assumption) | (with_reducible exact SX0.init _) | (with_reducible exact SX0.refl _) | (with_reducible refine SX0.alloc ?_ _) | (with_reducible refine SX0.call ?_ (by assumption)) | (with_reducible refine SX0.set ?_ _ _ _ ?_) | (with_reducible refine SX0.drew ?_) | (simp; done) | omega | (simp; omega))
          (first | (go_at_call 12; ((with_reducible refine (without_any _ _ _ l _ _ (HI2.out.kept (by first | exact (by assumption : SX0 w7 _).1)) hlen.out).mono ?_)); rintro e w8 ⟨v8, rfl, hown8, hb8⟩; obtain ⟨A11, c11, rfl⟩ := own_slice hown8; clear hown8; obtain ⟨hc8, hf8, hg8⟩ := bcell hb8; have hz8 := hb8.size; try simp at hz8))
        all_goals
          go_wp2_with fail
          go_meet
          refine ⟨?_, ?_⟩
          · congr 1
            rw [Bool.eq_iff_iff, decide_eq_true_iff, decide_eq_true_iff]
            have h9 := Wl.without_len (l := l) (x := x)
            rw [Hl.out] at h9
            rw [← h9]
          · (repeat' first | (with_reducible assumption) | (with_reducible exact Kept.refl _ _) | (with_reducible refine Kept.alloc ?_ _) | (with_reducible refine Kept.call ?_ (by assumption)) | (with_reducible refine Kept.set ?_ _ _ _ (Or.inr ?_)) | (with_reducible refine Kept.drew ?_) | (simp; done) | omega | (simp; omega))
      case rest =>
        obtain ⟨rfl, hkc⟩ := hcut
        have Bb0' := hkc.blk (by simp) Bb0
        have Bg1' := hkc.blk (by simp) Bg1
        have Bg2' := hkc.blk (by simp) Bg2
        have Bg3' := hkc.blk (by simp) Bg3
        have Bg4' := hkc.blk (by simp) Bg4
        have HQ1' := Lib.hid (HQ1.out.kept hkc)
        have HQ2' := Lib.hid (HQ2.out.kept hkc)
        have HP1' := Lib.hid (HP1.out.kept hkc)
        have HP2' := Lib.hid (HP2.out.kept hkc)
        have HS1' := Lib.hid (HS1.out.kept hkc)
        have HS2' := Lib.hid (HS2.out.kept hkc)
        have HO1' := Lib.hid (HO1.out.kept hkc)
        have HO2' := Lib.hid (HO2.out.kept hkc)
        have HT1' := Lib.hid (HT1.out.kept hkc)
        have HT2' := Lib.hid (HT2.out.kept hkc)
        have hB' : Below w.heap.size w wc := hkc.below hB hB.size (by simp)
        clear Bb0 Lb0 Cb0 Fb0 Bg1 Lg1 Cg1 Fg1 Bg2 Lg2 Cg2 Fg2 Bg3 Lg3 Cg3 Fg3 Bg4 Lg4 Cg4 Fg4 HQ1 HQ2 HP1 HP2 HS1 HS2 HO1 HO2 HT1 HT2 hB hkc
        have Bb0 := Bb0'
        have Bg1 := Bg1'
        have Bg2 := Bg2'
        have Bg3 := Bg3'
        have Bg4 := Bg4'
        have HQ1 := HQ1'
        have HQ2 := HQ2'
        have HP1 := HP1'
        have HP2 := HP2'
        have HS1 := HS1'
        have HS2 := HS2'
        have HO1 := HO1'
        have HO2 := HO2'
        have HT1 := HT1'
        have HT2 := HT2'
        have hB := hB'
        clear Bb0' Bg1' Bg2' Bg3' Bg4' HQ1' HQ2' HP1' HP2' HS1' HS2' HO1' HO2' HT1' HT2' hB'
        have ⟨Lb0, Cb0, Fb0⟩ := Bb0
        have ⟨Lg1, Cg1, Fg1⟩ := Bg1
        have ⟨Lg2, Cg2, Fg2⟩ := Bg2
        have ⟨Lg3, Cg3, Fg3⟩ := Bg3
        have ⟨Lg4, Cg4, Fg4⟩ := Bg4
        have HI1 := Lib.hid HQ1.out.1
        have HI2 := Lib.hid HQ2.out.1
        have HN2 := Lib.hid HQ2.out.2.2.2
        have HL2 := Lib.hid HQ2.out.lenle
        have HZ2 : Hid (n2 ≤ 9223372036854775807) := HQ2.out.lenle
        have HSz : Hid (Wl.size r l = (n2 : Int)) := Lib.hid (by rw [Wl.size, if_pos HZ.out, Hl.out])
        have HIt : Hid (Wl.items r l = l) := Lib.hid (by rw [Wl.items, if_pos HZ.out])
        have HHs : Hid ((decide (Wl.chk r l = 0) && decide (x ∈ l)) = decide (x ∈ l)) := Lib.hid (by simp [HZ.out])
        go_wp2_with fail
        go_region_held3 (fun w' => SX0 wc w') (repeat' first | (with_reducible assumption) | (with_reducible exact SX0.init _) | (with_reducible exact SX0.refl _) | (with_reducible refine SX0.alloc ?_ _) | (with_reducible refine SX0.call ?_ (by assumption)) | (with_reducible refine SX0.set ?_ _ _ _ ?_) | (with_reducible refine SX0.drew ?_) | (simp; done) | omega | (simp; omega))
          (first | (go_at_call 14; ((with_reducible refine (len_any _ _ _ _ _ _ r l _ (HI1.out.kept (by first | exact (by assumption : SX0 wc _).1)) (HI2.out.kept (by first | exact (by assumption : SX0 wc _).1))).mono ?_)); rintro e w8 ⟨rfl, hb8⟩; rw [HSz.out]; obtain ⟨hc8, hf8, hg8⟩ := bcell hb8; have hz8 := hb8.size; try simp at hz8) | (go_at_call 15; ((with_reducible refine (drain_any _ _ _ _ _ _ r l _ (HI1.out.kept (by first | exact (by assumption : SX0 wc _).1)) (HI2.out.kept (by first | exact (by assumption : SX0 wc _).1)) HN2.out).mono ?_)); rintro e w9 ⟨A11, n11, c11, rfl, hi11, hn11, hb9⟩; rw [HIt.out] at hi11; obtain rfl : n2 = n11 := Hl.out.symm.trans hi11.1; have HI11 := Lib.hid hi11; clear hi11 hn11; obtain ⟨hc9, hf9, hg9⟩ := bcell hb9; have hz9 := hb9.size; try simp at hz9) | (go_at_call 17; ((with_reducible refine (equal_any _ _ _ _ _ _ l l _ (by first | exact HI11.out) (HI2.out.kept (by first | exact (by assumption : SX0 wc _).1)) HZ2.out HZ2.out).mono ?_)); rintro e w10 ⟨rfl, hb10⟩; rw [decide_eq_true (rfl : l = l)]; obtain ⟨hc10, hf10, hg10⟩ := bcell hb10; have hz10 := hb10.size; try simp at hz10) | (go_at_call 22; ((with_reducible refine (has_any _ _ _ _ _ _ r l x _ (HI1.out.kept (by first | exact (by assumption : SX0 wc _).1)) (HI2.out.kept (by first | exact (by assumption : SX0 wc _).1)) HZ2.out).mono ?_)); rintro e w11 ⟨rfl, hb11⟩; rw [HHs.out]; obtain ⟨hc11, hf11, hg11⟩ := bcell hb11; have hz11 := hb11.size; try simp at hz11) | (go_at_call 8; ((with_reducible refine (awake_any _).mono ?_)); rintro e w12 ⟨rfl, hb12⟩; obtain ⟨hc12, hf12, hg12⟩ := bcell hb12; have hz12 := hb12.size; try simp at hz12))
        all_goals
          go_wp2_with fail
          go_ret
          refine ⟨by simp, Kept.below (X := []) hB hB.size (by simp) ?_⟩
          (repeat' first | (with_reducible assumption) | (with_reducible exact Kept.refl _ _) | (with_reducible refine Kept.alloc ?_ _) | (with_reducible refine Kept.call ?_ (by assumption)) | (with_reducible refine Kept.set ?_ _ _ _ (Or.inr ?_)) | (with_reducible refine Kept.drew ?_) | (simp; done) | omega | (simp; omega))
    · have hz' : (Wl.chk r l != 0) = true := by simpa using hz
      go_wp2_with fail
      refine (len_any _ _ _ _ _ _ r l _ (HQ1.out.kept hk_w7).1 (HQ2.out.kept hk_w7).1).mono ?_
      rintro e w8 ⟨rfl, hb_w8⟩
      have hk_w8 : Kept [] U4 w8 := (hk_w7).call hb_w8
      have ⟨hc8, hf8, hg8⟩ := hk_w8.rules
      rw [show Wl.size r l = 0 by rw [Wl.size, if_neg hz]]
      go_wp2_with fail
      refine (drain_any _ _ _ _ _ _ r l _ (HQ1.out.kept hk_w8).1 (HQ2.out.kept hk_w8).1 HQ2.out.2.2.2).mono ?_
      rintro e w9 ⟨A11, n11, c11, rfl, hi11, hn11, hb_w9⟩
      have hk_w9 : Kept [] U4 w9 := (hk_w8).call hb_w9
      have ⟨hc9, hf9, hg9⟩ := hk_w9.rules
      obtain rfl : 0 = n11 := by rw [Wl.items, if_neg hz] at hi11; exact hi11.1
      clear hi11 hn11
      go_wp2_with fail
      refine (has_any _ _ _ _ _ _ r l _ _ (HQ1.out.kept hk_w9).1 (HQ2.out.kept hk_w9).1 HQ2.out.lenle).mono ?_
      rintro e w10 ⟨rfl, hb_w10⟩
      have hk_w10 : Kept [] U4 w10 := (hk_w9).call hb_w10
      have ⟨hc10, hf10, hg10⟩ := hk_w10.rules
      rw [show (decide (Wl.chk r l = 0) && decide (x ∈ l)) = false by simp [hz]]
      go_wp2_with fail
      refine (awake_any _).mono ?_
      rintro e w11 ⟨rfl, hb_w11⟩
      have hk_w11 : Kept [] U4 w11 := (hk_w10).call hb_w11
      go_wp2_with fail
      go_ret
      exact ⟨rfl, hk_w11.below hB hB.size (by simp)⟩
end Go.Proofs.Ythliphpcfnbmnaa
