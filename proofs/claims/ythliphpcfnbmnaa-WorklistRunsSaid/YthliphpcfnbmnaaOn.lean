/- The walk of WorklistOnce. -/
import Derived.Test.YthliphpcfnbmnaaDr
namespace Go.Proofs.Ythliphpcfnbmnaa
open Go.RowKit Go.Df
attribute [local go_sem ↓] Go.wp_at_zero Go.wp_at_succ

theorem SIn.tail {w : World} {b o n c : Nat} {xs : List Int} (h : SIn w (some ⟨b, o, none⟩) n c xs) (hn : 0 < n) : Ints w (if c = 1 then some ⟨b, o, none⟩ else some ⟨b, o + 1, none⟩) (n - 1) (xs.drop 1) := by
  have hl := h.1.1
  refine ⟨by rw [List.length_drop, hl], fun h0 => ?_⟩
  obtain ⟨b', o', e, hlt, hc⟩ := h.1.2 hn
  injection e with e
  injection e with e1 e2
  subst e1 e2
  have hcap := h.2.1
  rw [if_neg (by omega)]
  refine ⟨b, o + 1, rfl, hlt, fun i hi => ?_⟩
  rw [show o + 1 + i = o + (1 + i) by omega, hc (1 + i) (by omega), gi_lt (by omega), gi_lt (by rw [List.length_drop]; omega), List.getElem_drop]

set_option maxRecDepth 100000 in
set_option maxHeartbeats 2000000 in
theorem once_any (A1 A2 : Option Addr) (n1 c1 n2 c2 : Nat) (r l : List Int) (x : Int) (w : World) (hr : SIn w A1 n1 c1 r) (hl : SIn w A2 n2 c2 l) :
    Calls Try.prog 7 #[.agg #[.slice A1 n1 c1, .slice A2 n2 c2], .int .i64 x] w fun e w' => e = .returned (.bool true) ∧ Below w.heap.size w w' := by
  have HR := Lib.hid hr
  have HL := Lib.hid hl
  clear hr hl
  by_cases t2 : 300 < n2
  · have d2 : decide ((300 : Int) < n2) = true := by simp; omega
    go_enter Try.func7, Try.ntmps7
    go_upto_region 1 with fail
    refine wp_named (fun W => ∃ b0, w.heap.size = b0 ∧ Blk W b0 [.slice A1 n1 c1, .slice A2 n2 c2] ∧ Below w.heap.size w W) ⟨_, rfl, ?_, ?_⟩ ?_
    · exact Blk.new _ _ _ _ (by first | rfl | simp)
    · go_grown
    rintro W ⟨b0, e0, B0, hB⟩
    rw [e0]
    have G0 : w.heap.size ≤ b0 := by omega
    clear e0
    have ⟨L0, C0, F0⟩ := B0
    go_wp2_with fail
    refine (awake_any _).mono ?_
    rintro e w1 ⟨rfl, hb1⟩
    go_wp2_with fail
    go_ret
    exact ⟨rfl, below_step hB.size hB hb1⟩
  have d2 : decide ((300 : Int) < n2) = false := by simp; omega
  by_cases t1 : 8200 < n1
  · have d1 : decide ((8200 : Int) < n1) = true := by simp; omega
    go_enter Try.func7, Try.ntmps7
    go_upto_region 1 with fail
    refine wp_named (fun W => ∃ b0, w.heap.size = b0 ∧ Blk W b0 [.slice A1 n1 c1, .slice A2 n2 c2] ∧ Below w.heap.size w W) ⟨_, rfl, ?_, ?_⟩ ?_
    · exact Blk.new _ _ _ _ (by first | rfl | simp)
    · go_grown
    rintro W ⟨b0, e0, B0, hB⟩
    rw [e0]
    have G0 : w.heap.size ≤ b0 := by omega
    clear e0
    have ⟨L0, C0, F0⟩ := B0
    go_wp2_with fail
    refine (awake_any _).mono ?_
    rintro e w1 ⟨rfl, hb1⟩
    go_wp2_with fail
    go_ret
    exact ⟨rfl, below_step hB.size hB hb1⟩
  have d1 : decide ((8200 : Int) < n1) = false := by simp; omega
  by_cases hp : Wl.perr r l x = 0
  · obtain ⟨hpR, hval, hmem, hal⟩ := Wl.pushed hp
    have HPR := Lib.hid hpR
    have HP0 := Lib.hid hp
    obtain ⟨L1, hL1⟩ : ∃ L1, L1 = Wl.pL r l x := ⟨_, rfl⟩
    have HL1 := Lib.hid hL1
    rw [← hL1] at hval hmem
    have hpos : 0 < L1.length := List.length_pos_of_mem hmem
    have HAg := Lib.hid (Wl.again hval hal hmem)
    have HPo := Lib.hid (Wl.popped hval hpos)
    have HGo := Lib.hid (Wl.gone hval hpos)
    have HV1 := Lib.hid hval
    have HV2 := Lib.hid (Wl.valid_drop hval)
    have HMem := Lib.hid hmem
    have HPos := Lib.hid hpos
    clear hp hpR hval hmem hal hL1 hpos
    go_enter Try.func7, Try.ntmps7
    go_upto_region 1 with fail
    refine wp_named (fun W => ∃ b0, w.heap.size = b0 ∧ Blk W b0 [.slice A1 n1 c1, .slice A2 n2 c2] ∧ Below w.heap.size w W) ⟨_, rfl, ?_, ?_⟩ ?_
    · exact Blk.new _ _ _ _ (by first | rfl | simp)
    · go_grown
    rintro W ⟨b0, e0, B0, hB⟩
    rw [e0]
    have G0 : w.heap.size ≤ b0 := by omega
    clear e0
    have ⟨L0, C0, F0⟩ := B0
    have Bb0 := B0
    have HQ1 := Lib.hid (HR.out.later hB)
    have HQ2 := Lib.hid (HL.out.later hB)
    clear B0 L0 C0 F0
    have ⟨Lb0, Cb0, Fb0⟩ := Bb0
    go_wp2_with fail
    refine (push_u HQ1.out HQ2.out x).mono ?_
    rw [HP0.out, HPR.out, ← HL1.out]
    rintro e w1 ⟨A3, n3, c3, A4, n4, c4, rfl, hx1, hx2, hb_w1, hf3, hf4⟩
    have hk_w1 : Kept [] W w1 := (Kept.refl _ _).call hb_w1
    have HP1 := Lib.hid hx1
    have HP2 := Lib.hid hx2
    clear hx1 hx2 hf3 hf4
    go_upto_region 4 with fail
    refine wp_named (fun V => ∃ g, w1.heap.size = g ∧ Blk V g [.slice A3 n3 c3, .slice A4 n4 c4] ∧ Kept [] w1 V) ⟨_, rfl, Blk.new _ _ _ _ rfl, (Kept.refl _ _).alloc _⟩ ?_
    rintro U1 ⟨g1, eq_g1, Bg1, hkV⟩
    rw [eq_g1]
    have hkR : Kept [] W U1 := keptTrans hk_w1 hkV
    have Bb0' := hkR.blk (by simp) Bb0
    have d_b0_g1 : b0 < g1 := by have := hk_w1.size; omega
    have HQ1' := Lib.hid (HQ1.out.kept hkR)
    have HQ2' := Lib.hid (HQ2.out.kept hkR)
    have HP1 := Lib.hid (HP1.out.kept hkV)
    have HP2 := Lib.hid (HP2.out.kept hkV)
    have hB' : Below w.heap.size w U1 := hkR.below hB hB.size (by simp)
    clear Bb0 Lb0 Cb0 Fb0 HQ1 HQ2 hB hkR hkV eq_g1 hk_w1
    have Bb0 := Bb0'
    have HQ1 := HQ1'
    have HQ2 := HQ2'
    have hB := hB'
    clear Bb0' HQ1' HQ2' hB'
    have ⟨Lb0, Cb0, Fb0⟩ := Bb0
    have ⟨Lg1, Cg1, Fg1⟩ := Bg1
    go_wp2_with fail
    refine (push_u HP1.out HP2.out x).mono ?_
    rw [HAg.out.1, HAg.out.2.1, HAg.out.2.2]
    rintro e w2 ⟨A5, n5, c5, A6, n6, c6, rfl, hx1, hx2, hb_w2, hf3, hf4⟩
    have hk_w2 : Kept [] U1 w2 := (Kept.refl _ _).call hb_w2
    have HS1 := Lib.hid hx1
    have HS2 := Lib.hid hx2
    clear hx1 hx2 hf3 hf4
    go_upto_region 7 with fail
    refine wp_named (fun V => ∃ g, w2.heap.size = g ∧ Blk V g [.slice A5 n5 c5, .slice A6 n6 c6] ∧ Kept [] w2 V) ⟨_, rfl, Blk.new _ _ _ _ rfl, (Kept.refl _ _).alloc _⟩ ?_
    rintro U2 ⟨g2, eq_g2, Bg2, hkV⟩
    rw [eq_g2]
    have hkR : Kept [] U1 U2 := keptTrans hk_w2 hkV
    have Bb0' := hkR.blk (by simp) Bb0
    have d_b0_g2 : b0 < g2 := by have := hk_w2.size; omega
    have Bg1' := hkR.blk (by simp) Bg1
    have d_g1_g2 : g1 < g2 := by have := hk_w2.size; omega
    have HQ1' := Lib.hid (HQ1.out.kept hkR)
    have HQ2' := Lib.hid (HQ2.out.kept hkR)
    have HP1' := Lib.hid (HP1.out.kept hkR)
    have HP2' := Lib.hid (HP2.out.kept hkR)
    have HS1 := Lib.hid (HS1.out.kept hkV)
    have HS2 := Lib.hid (HS2.out.kept hkV)
    have hB' : Below w.heap.size w U2 := hkR.below hB hB.size (by simp)
    clear Bb0 Lb0 Cb0 Fb0 Bg1 Lg1 Cg1 Fg1 HQ1 HQ2 HP1 HP2 hB hkR hkV eq_g2 hk_w2
    have Bb0 := Bb0'
    have Bg1 := Bg1'
    have HQ1 := HQ1'
    have HQ2 := HQ2'
    have HP1 := HP1'
    have HP2 := HP2'
    have hB := hB'
    clear Bb0' Bg1' HQ1' HQ2' HP1' HP2' hB'
    have ⟨Lb0, Cb0, Fb0⟩ := Bb0
    have ⟨Lg1, Cg1, Fg1⟩ := Bg1
    have ⟨Lg2, Cg2, Fg2⟩ := Bg2
    go_wp2_with fail
    refine (same_any _ _ _ _ _ _ _ _ _ _ _ _ _ _ _ _ _ HP1.out.1 HP2.out.1 HS1.out.1 HS2.out.1 HP1.out.lenle HP2.out.lenle HS1.out.lenle HS2.out.lenle).mono ?_
    rintro e w3 ⟨rfl, hb_w3⟩
    have hk_w3 : Kept [] U2 w3 := (Kept.refl _ _).call hb_w3
    simp only [decide_true, Bool.and_self]
    have ⟨hc3, hf3, hg3⟩ := hk_w3.rules
    go_wp2_with fail
    refine (has_any _ _ _ _ _ _ r L1 x _ (HP1.out.kept hk_w3).1 (HP2.out.kept hk_w3).1 HP2.out.lenle).mono ?_
    rintro e w4 ⟨rfl, hb_w4⟩
    have hk_w4 : Kept [] U2 w4 := (hk_w3).call hb_w4
    rw [show (decide (Wl.chk r L1 = 0) && decide (x ∈ L1)) = true by simp [Wl.chk_of_valid HV1.out, HMem.out]]
    have ⟨hc4, hf4, hg4⟩ := hk_w4.rules
    go_wp2_with fail
    refine (drain_s _ _ _ _ _ _ r L1 _ (HP1.out.kept hk_w4).1 (HP2.out.kept hk_w4).1 HP2.out.2.2.2).mono ?_
    rw [show Wl.items r L1 = L1 by rw [Wl.items, if_pos (Wl.chk_of_valid HV1.out)]]
    rintro e w5 ⟨A7, n7, c7, rfl, hx1, hb_w5⟩
    have hk_w5 : Kept [] U2 w5 := (hk_w4).call hb_w5
    have HD := Lib.hid hx1
    clear hx1
    clear hc3 hf3 hg3 hc4 hf4 hg4 hk_w3 hk_w4 hb_w3 hb_w4
    have Bb0' := hk_w5.blk (by simp) Bb0
    have Bg1' := hk_w5.blk (by simp) Bg1
    have Bg2' := hk_w5.blk (by simp) Bg2
    have HQ1' := Lib.hid (HQ1.out.kept hk_w5)
    have HQ2' := Lib.hid (HQ2.out.kept hk_w5)
    have HP1' := Lib.hid (HP1.out.kept hk_w5)
    have HP2' := Lib.hid (HP2.out.kept hk_w5)
    have HS1' := Lib.hid (HS1.out.kept hk_w5)
    have HS2' := Lib.hid (HS2.out.kept hk_w5)
    have hB' : Below w.heap.size w w5 := hk_w5.below hB hB.size (by simp)
    clear Bb0 Lb0 Cb0 Fb0 Bg1 Lg1 Cg1 Fg1 Bg2 Lg2 Cg2 Fg2 HQ1 HQ2 HP1 HP2 HS1 HS2 hB hk_w5
    have Bb0 := Bb0'
    have Bg1 := Bg1'
    have Bg2 := Bg2'
    have HQ1 := HQ1'
    have HQ2 := HQ2'
    have HP1 := HP1'
    have HP2 := HP2'
    have HS1 := HS1'
    have HS2 := HS2'
    have hB := hB'
    clear Bb0' Bg1' Bg2' HQ1' HQ2' HP1' HP2' HS1' HS2' hB'
    have ⟨Lb0, Cb0, Fb0⟩ := Bb0
    have ⟨Lg1, Cg1, Fg1⟩ := Bg1
    have ⟨Lg2, Cg2, Fg2⟩ := Bg2
    go_wp2_with fail
    refine (pop_u HP1.out HP2.out).mono ?_
    rw [HPo.out.1, HPo.out.2.1, HPo.out.2.2.1, HPo.out.2.2.2]
    rintro e w6 ⟨A8, n8, c8, A9, n9, c9, rfl, hx1, hx2, hb_w6, hf7, hf8⟩
    have hk_w6 : Kept [] w5 w6 := (Kept.refl _ _).call hb_w6
    have HO1 := Lib.hid hx1
    have HO2 := Lib.hid hx2
    clear hx1 hx2 hf7 hf8
    go_upto_region 11 with fail
    refine wp_named (fun V => ∃ g, w6.heap.size = g ∧ Blk V g [.slice A8 n8 c8, .slice A9 n9 c9] ∧ Kept [] w6 V) ⟨_, rfl, Blk.new _ _ _ _ rfl, (Kept.refl _ _).alloc _⟩ ?_
    rintro U3 ⟨g3, eq_g3, Bg3, hkV⟩
    rw [eq_g3]
    have hkR : Kept [] w5 U3 := keptTrans hk_w6 hkV
    have Bb0' := hkR.blk (by simp) Bb0
    have d_b0_g3 : b0 < g3 := by have := hk_w6.size; omega
    have Bg1' := hkR.blk (by simp) Bg1
    have d_g1_g3 : g1 < g3 := by have := hk_w6.size; omega
    have Bg2' := hkR.blk (by simp) Bg2
    have d_g2_g3 : g2 < g3 := by have := hk_w6.size; omega
    have HQ1' := Lib.hid (HQ1.out.kept hkR)
    have HQ2' := Lib.hid (HQ2.out.kept hkR)
    have HP1' := Lib.hid (HP1.out.kept hkR)
    have HP2' := Lib.hid (HP2.out.kept hkR)
    have HS1' := Lib.hid (HS1.out.kept hkR)
    have HS2' := Lib.hid (HS2.out.kept hkR)
    have HD' := Lib.hid (HD.out.kept hkR)
    have HO1 := Lib.hid (HO1.out.kept hkV)
    have HO2 := Lib.hid (HO2.out.kept hkV)
    have hB' : Below w.heap.size w U3 := hkR.below hB hB.size (by simp)
    clear Bb0 Lb0 Cb0 Fb0 Bg1 Lg1 Cg1 Fg1 Bg2 Lg2 Cg2 Fg2 HQ1 HQ2 HP1 HP2 HS1 HS2 HD hB hkR hkV eq_g3 hk_w6
    have Bb0 := Bb0'
    have Bg1 := Bg1'
    have Bg2 := Bg2'
    have HQ1 := HQ1'
    have HQ2 := HQ2'
    have HP1 := HP1'
    have HP2 := HP2'
    have HS1 := HS1'
    have HS2 := HS2'
    have HD := HD'
    have hB := hB'
    clear Bb0' Bg1' Bg2' HQ1' HQ2' HP1' HP2' HS1' HS2' HD' hB'
    have ⟨Lb0, Cb0, Fb0⟩ := Bb0
    have ⟨Lg1, Cg1, Fg1⟩ := Bg1
    have ⟨Lg2, Cg2, Fg2⟩ := Bg2
    have ⟨Lg3, Cg3, Fg3⟩ := Bg3
    have hn7 : 0 < n7 := by rw [← HD.out.1.1]; exact HPos.out
    obtain ⟨b7, o7, e7, l7, hcell7⟩ := HD.out.1.at_ hn7
    subst e7
    have hc70 : U3.cell? ⟨b7, o7, none⟩ = some (.int .i64 (gi L1 0)) := hcell7 0 hn7
    have z7 : ((n7 : Int) == 0) = false := by simp; omega
    have z8 : ¬ ((n7 : Int) = 0) := by omega
    clear hcell7
    go_wp2_with fail
    refine (has_any _ _ _ _ _ _ r (L1.drop 1) _ _ HO1.out.1 HO2.out.1 HO2.out.lenle).mono ?_
    rintro e w7 ⟨rfl, hb_w7⟩
    have hk_w7 : Kept [] U3 w7 := (Kept.refl _ _).call hb_w7
    rw [show (decide (Wl.chk r (L1.drop 1) = 0) && decide (gi L1 0 ∈ L1.drop 1)) = false by simp only [Bool.and_eq_false_iff]; exact .inr (decide_eq_false HGo.out)]
    clear hc70
    have Bb0' := hk_w7.blk (by simp) Bb0
    have Bg1' := hk_w7.blk (by simp) Bg1
    have Bg2' := hk_w7.blk (by simp) Bg2
    have Bg3' := hk_w7.blk (by simp) Bg3
    have HQ1' := Lib.hid (HQ1.out.kept hk_w7)
    have HQ2' := Lib.hid (HQ2.out.kept hk_w7)
    have HP1' := Lib.hid (HP1.out.kept hk_w7)
    have HP2' := Lib.hid (HP2.out.kept hk_w7)
    have HS1' := Lib.hid (HS1.out.kept hk_w7)
    have HS2' := Lib.hid (HS2.out.kept hk_w7)
    have HD' := Lib.hid (HD.out.kept hk_w7)
    have HO1' := Lib.hid (HO1.out.kept hk_w7)
    have HO2' := Lib.hid (HO2.out.kept hk_w7)
    have hB' : Below w.heap.size w w7 := hk_w7.below hB hB.size (by simp)
    clear Bb0 Lb0 Cb0 Fb0 Bg1 Lg1 Cg1 Fg1 Bg2 Lg2 Cg2 Fg2 Bg3 Lg3 Cg3 Fg3 HQ1 HQ2 HP1 HP2 HS1 HS2 HD HO1 HO2 hB hk_w7
    have Bb0 := Bb0'
    have Bg1 := Bg1'
    have Bg2 := Bg2'
    have Bg3 := Bg3'
    have HQ1 := HQ1'
    have HQ2 := HQ2'
    have HP1 := HP1'
    have HP2 := HP2'
    have HS1 := HS1'
    have HS2 := HS2'
    have HD := HD'
    have HO1 := HO1'
    have HO2 := HO2'
    have hB := hB'
    clear Bb0' Bg1' Bg2' Bg3' HQ1' HQ2' HP1' HP2' HS1' HS2' HD' HO1' HO2' hB'
    have ⟨Lb0, Cb0, Fb0⟩ := Bb0
    have ⟨Lg1, Cg1, Fg1⟩ := Bg1
    have ⟨Lg2, Cg2, Fg2⟩ := Bg2
    have ⟨Lg3, Cg3, Fg3⟩ := Bg3
    have HI1 := Lib.hid HO1.out.1
    have HI2 := Lib.hid HO2.out.1
    have HN2 := Lib.hid HO2.out.2.2.2
    have HI7 := Lib.hid HD.out
    have HIt : Hid (Wl.items r (L1.drop 1) = L1.drop 1) := Lib.hid (by rw [Wl.items, if_pos (Wl.chk_of_valid HV2.out)])
    have k7 : (1 : Int) ≤ (n7 : Int) := by omega
    have HC7 : Hid (∀ w', Kept [] w7 w' → Ints w' (if c7 = 1 then some ⟨b7, o7, none⟩ else some ⟨b7, o7 + 1, none⟩) (n7 - 1) (L1.drop 1)) := fun w' hk => (SIn.tail (HD.out.kept hk) hn7)
    have HZ7 : Hid (n7 - 1 ≤ 9223372036854775807) := Lib.hid (by have := HD.out.lenle; omega)
    by_cases hc1 : c7 = 1
    · have HT : Hid (∀ w', Kept [] w7 w' → Ints w' (some ⟨b7, o7, none⟩) (n7 - 1) (L1.drop 1)) := fun w' hk => by have := HC7.out w' hk; rwa [if_pos hc1] at this
      obtain rfl : 1 = c7 := hc1.symm
      clear HC7
      go_wp2_with fail
      go_region_held3 (fun w' => SX0 w7 w') (repeat' first | (with_reducible assumption) | (with_reducible exact SX0.init _) | (with_reducible exact SX0.refl _) | (with_reducible refine SX0.alloc ?_ _) | (with_reducible refine SX0.call ?_ (by assumption)) | (with_reducible refine SX0.set ?_ _ _ _ ?_) | (with_reducible refine SX0.drew ?_) | (simp; done) | omega | (simp; omega))
        (first | (go_at_call 15; ((with_reducible refine (drain_s _ _ _ _ _ _ r (L1.drop 1) _ (HI1.out.kept (by first | exact (by assumption : SX0 w7 _).1)) (HI2.out.kept (by first | exact (by assumption : SX0 w7 _).1)) HN2.out).mono ?_)); rw [HIt.out]; rintro e w9 ⟨A11, n11, c11, rfl, hi11, hb9⟩; have HI11 := Lib.hid hi11.1; have HL11 := Lib.hid hi11.lenle; clear hi11; obtain ⟨hc9, hf9, hg9⟩ := bcell hb9; have hz9 := hb9.size; try simp at hz9) | (go_at_call 17; ((with_reducible refine (equal_any _ _ _ _ _ _ (L1.drop 1) (L1.drop 1) _ HI11.out (HT.out _ (by first | exact (by assumption : SX0 w7 _).1)) HL11.out HZ7.out).mono ?_)); rintro e w10 ⟨rfl, hb10⟩; rw [decide_eq_true (rfl : L1.drop 1 = L1.drop 1)]; obtain ⟨hc10, hf10, hg10⟩ := bcell hb10; have hz10 := hb10.size; try simp at hz10) | (go_at_call 8; ((with_reducible refine (awake_any _).mono ?_)); rintro e w12 ⟨rfl, hb12⟩; obtain ⟨hc12, hf12, hg12⟩ := bcell hb12; have hz12 := hb12.size; try simp at hz12))
      all_goals
        go_wp2_with fail
        go_ret
        refine ⟨by simp, Kept.below (X := []) hB hB.size (by simp) ?_⟩
        (repeat' first | (with_reducible assumption) | (with_reducible exact Kept.refl _ _) | (with_reducible refine Kept.alloc ?_ _) | (with_reducible refine Kept.call ?_ (by assumption)) | (with_reducible refine Kept.set ?_ _ _ _ (Or.inr ?_)) | (with_reducible refine Kept.drew ?_) | (simp; done) | omega | (simp; omega))
    · have HT : Hid (∀ w', Kept [] w7 w' → Ints w' (some ⟨b7, o7 + 1, none⟩) (n7 - 1) (L1.drop 1)) := fun w' hk => by have := HC7.out w' hk; rwa [if_neg hc1] at this
      have hc2 : ¬ ((c7 : Int) = 1) := by omega
      clear HC7
      go_wp2_with fail
      go_region_held3 (fun w' => SX0 w7 w') (repeat' first | (with_reducible assumption) | (with_reducible exact SX0.init _) | (with_reducible exact SX0.refl _) | (with_reducible refine SX0.alloc ?_ _) | (with_reducible refine SX0.call ?_ (by assumption)) | (with_reducible refine SX0.set ?_ _ _ _ ?_) | (with_reducible refine SX0.drew ?_) | (simp; done) | omega | (simp; omega))
        (first | (go_at_call 15; ((with_reducible refine (drain_s _ _ _ _ _ _ r (L1.drop 1) _ (HI1.out.kept (by first | exact (by assumption : SX0 w7 _).1)) (HI2.out.kept (by first | exact (by assumption : SX0 w7 _).1)) HN2.out).mono ?_)); rw [HIt.out]; rintro e w9 ⟨A11, n11, c11, rfl, hi11, hb9⟩; have HI11 := Lib.hid hi11.1; have HL11 := Lib.hid hi11.lenle; clear hi11; obtain ⟨hc9, hf9, hg9⟩ := bcell hb9; have hz9 := hb9.size; try simp at hz9) | (go_at_call 17; ((with_reducible refine (equal_any _ _ _ _ _ _ (L1.drop 1) (L1.drop 1) _ HI11.out (HT.out _ (by first | exact (by assumption : SX0 w7 _).1)) HL11.out HZ7.out).mono ?_)); rintro e w10 ⟨rfl, hb10⟩; rw [decide_eq_true (rfl : L1.drop 1 = L1.drop 1)]; obtain ⟨hc10, hf10, hg10⟩ := bcell hb10; have hz10 := hb10.size; try simp at hz10) | (go_at_call 8; ((with_reducible refine (awake_any _).mono ?_)); rintro e w12 ⟨rfl, hb12⟩; obtain ⟨hc12, hf12, hg12⟩ := bcell hb12; have hz12 := hb12.size; try simp at hz12))
      all_goals
        go_wp2_with fail
        go_ret
        refine ⟨by simp, Kept.below (X := []) hB hB.size (by simp) ?_⟩
        (repeat' first | (with_reducible assumption) | (with_reducible exact Kept.refl _ _) | (with_reducible refine Kept.alloc ?_ _) | (with_reducible refine Kept.call ?_ (by assumption)) | (with_reducible refine Kept.set ?_ _ _ _ (Or.inr ?_)) | (with_reducible refine Kept.drew ?_) | (simp; done) | omega | (simp; omega))
  · have hp' : (Wl.perr r l x != 0) = true := by simpa using hp
    go_enter Try.func7, Try.ntmps7
    go_upto_region 1 with fail
    refine wp_named (fun W => ∃ b0, w.heap.size = b0 ∧ Blk W b0 [.slice A1 n1 c1, .slice A2 n2 c2] ∧ Below w.heap.size w W) ⟨_, rfl, ?_, ?_⟩ ?_
    · exact Blk.new _ _ _ _ (by first | rfl | simp)
    · go_grown
    rintro W ⟨b0, e0, B0, hB⟩
    rw [e0]
    have G0 : w.heap.size ≤ b0 := by omega
    clear e0
    have ⟨L0, C0, F0⟩ := B0
    go_wp2_with fail
    refine (push_u (HR.out.later hB) (HL.out.later hB) x).mono ?_
    rintro e w1 ⟨A3, n3, c3, A4, n4, c4, rfl, hx1, hx2, hb1, hf3, hf4⟩
    clear hx1 hx2 hf3 hf4
    go_wp2_with fail
    refine (awake_any _).mono ?_
    rintro e w2 ⟨rfl, hb2⟩
    go_wp2_with fail
    go_ret
    have h1 := below_step hB.size hB hb1
    exact ⟨rfl, below_step (by have := h1.size; simp; omega) (h1.alloc h1.size _) hb2⟩
end Go.Proofs.Ythliphpcfnbmnaa
