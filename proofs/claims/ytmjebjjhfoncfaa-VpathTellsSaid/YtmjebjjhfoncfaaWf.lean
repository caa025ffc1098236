/- The walk of VpathTells. -/
import Derived.Test.YtmjebjjhfoncfaaWe
import Derived.Test.YtmjebjjhfoncfaaVm
namespace Go.Df.Sp
theorem run_len (es : List Ed) : ∀ (path : List Int) (a : Int) (cs : List Int), (runS es a cs path).2.2.length ≤ cs.length + path.length
  | [], _, _ => Nat.le_refl _
  | k :: r, a, cs => by
    rw [runS]
    split
    · simp
    · have h1 := run_len es r (stepS es a cs k).2.1 (stepS es a cs k).2.2
      have h2 := step_len es a cs k
      simp only [List.length_cons]
      omega
theorem follow_len (ns : List Nd) (es : List Ed) (m fr : Int) (path : List Int) : (followS ns es m fr path).2.2.length ≤ path.length := by
  unfold followS
  split
  · simp
  · split
    · simp
    · have := run_len es path fr []
      simpa using this
end Go.Df.Sp
namespace Go.Proofs.Ytmjebjjhfoncfaa
open Go.RowKit Go.Df
attribute [local go_sem ↓] Go.wp_at_zero Go.wp_at_succ

theorem rbal_is (A1 A2 A3 : Option Addr) (n1 c1 n2 c2 n3 c3 : Nat) (mn fr : Int) (ns : List Sp.Nd) (es : List Sp.Ed) (path : List Int) (w : World) (hg : Gr w A1 n1 A2 n2 ns es) (hp : Ints w A3 n3 path) (er a : Int) (cs : List Int) (hf : Sp.followS ns es mn fr path = (er, a, cs)) (v : Bool) (h : Sp.balS ns es mn fr path = v) :
    Calls Try.prog 22 #[.agg #[.slice A1 n1 c1, .slice A2 n2 c2, .int .i64 mn], .int .i64 fr, .slice A3 n3 c3] w fun e w' => e = .returned (.bool v) ∧ Below w.heap.size w w' := by
  subst h
  exact rbal_any A1 A2 A3 n1 c1 n2 c2 n3 c3 mn fr ns es path w hg hp er a cs hf

set_option maxRecDepth 100000 in
set_option maxHeartbeats 8000000 in
theorem vtells_any (A1 A2 A3 : Option Addr) (n1 c1 n2 c2 n3 c3 : Nat) (mn fr : Int) (ns : List Sp.Nd) (es : List Sp.Ed) (path : List Int) (w : World) (hg : Gr w A1 n1 A2 n2 ns es) (hp : Ints w A3 n3 path) :
    Calls Try.prog 4 #[.agg #[.slice A1 n1 c1, .slice A2 n2 c2, .int .i64 mn], .int .i64 fr, .slice A3 n3 c3] w fun e w' => e = .returned (.bool true) ∧ Below w.heap.size w w' := by
  have HG := Lib.hid hg
  have HP := Lib.hid hp
  have HL3 := Lib.hid hp.1
  clear hg hp
  go_enter Try.func4, Try.ntmps4
  go_upto_region 1 with fail
  refine wp_named (fun W => ∃ b0, w.heap.size = b0 ∧ Blk W b0 [.slice A1 n1 c1, .slice A2 n2 c2, .int .i64 mn] ∧ Below w.heap.size w W) ⟨_, rfl, ?_, ?_⟩ ?_
  · exact Blk.new _ _ _ _ (by first | rfl | simp)
  · go_grown
  rintro W ⟨b0, e0, B0, hB⟩
  rw [e0]
  have G0 : w.heap.size ≤ b0 := by omega
  clear e0
  have ⟨L0, C0, F0⟩ := B0
  obtain ⟨v, hv⟩ : ∃ v, v = (decide (n1 ≤ 40) && decide (n2 ≤ 120)) := ⟨_, rfl⟩
  have HV := Lib.hid hv
  clear hv
  cases v with
  | false =>
    go_wp2_with (first
      | (go_at_call 10; refine (small_any _ _ _ _ _ _ _ false HV.out _).mono ?_; rintro e w1 ⟨rfl, hb1⟩)
      | (go_at_call 12; refine (awake_any _).mono ?_; rintro e w2 ⟨rfl, hb2⟩))
    go_ret
    exact ⟨rfl, (((Kept.refl [] W).call hb1).call hb2).below hB hB.size (by simp)⟩
  | true =>
  by_cases h60 : 4200 < n3
  · have d60 : decide ((4200 : Int) < (n3 : Int)) = true := by simp; omega
    go_wp2_with (first
      | (go_at_call 10; refine (small_any _ _ _ _ _ _ _ true HV.out _).mono ?_; rintro e w1 ⟨rfl, hb1⟩)
      | (go_at_call 12; refine (awake_any _).mono ?_; rintro e w2 ⟨rfl, hb2⟩))
    go_ret
    exact ⟨rfl, (((Kept.refl [] W).call hb1).call hb2).below hB hB.size (by simp)⟩
  have d60 : decide ((4200 : Int) < (n3 : Int)) = false := by simp; omega
  have hsm : Hid (n2 ≤ 1000000) := by
    have := HV.out
    simp only [Bool.true_eq, Bool.and_eq_true, decide_eq_true_eq] at this
    show n2 ≤ 1000000
    omega
  obtain ⟨⟨er, a, cs⟩, hf⟩ : ∃ x, Sp.followS ns es mn fr path = x := ⟨_, rfl⟩
  have HF := Lib.hid hf
  have HCL : Hid (cs.length ≤ 1000000) := by
    show _ ≤ _
    have := Sp.follow_len ns es mn fr path
    rw [hf] at this
    have h3 := HL3.out
    simp only at this
    omega
  clear hf
  obtain ⟨⟨ne, nx⟩, hx⟩ : ∃ x, Sp.nxtS ns es mn fr path = x := ⟨_, rfl⟩
  have HX := Lib.hid hx
  clear hx
  obtain ⟨bv, hbv⟩ : ∃ x, Sp.balS ns es mn fr path = x := ⟨_, rfl⟩
  have HBV := Lib.hid hbv
  clear hbv
  have q1 : (er != er) = false := by simp
  have q2 : (ne != ne) = false := by simp
  have q3 : (a != a) = false := by simp
  have q4 : (er == er) = true := by simp
  have q5 : (bv == bv) = true := by simp
  go_upto_region 3 with (first | (go_at_call 10; refine (small_any _ _ _ _ _ _ _ true HV.out _).mono ?_; rintro e w1 ⟨rfl, hb1⟩; have hk1 : Kept [] W w1 := (Kept.refl _ _).call hb1; have hB1 := hk1.below hB hB.size (by simp); have ⟨L1', C1', F1'⟩ := hk1.blk (by simp) B0; clear C0 F0))
  go_upto_region 4 with (first | (go_at_call 14; refine (stack_is _ _ _ _ _ _ _ _ _ mn fr ns es path _ (HG.out.later hB1) (HP.out.later hB1) er a cs HF.out HCL.out).mono ?_; rintro e w2 ⟨SA, sn, sc, rfl, si, -, hb2⟩; have hk2 : Kept [] W w2 := hk1.call hb2; have hB2 := hk2.below hB hB.size (by simp); have ⟨L2', C2', F2'⟩ := hk2.blk (by simp) B0; have SI := Lib.hid si; have hsn : sn ≤ 1000000 := (by have h1 := si.1; have h2 := HCL.out; simp at h1; omega); clear si; clear C1' F1'))
  go_upto_region 5 with (first | (go_at_call 17; refine (rstack_any _ _ _ _ _ _ _ _ _ mn fr ns es path _ (HG.out.later hB2) (HP.out.later hB2) er a cs HF.out).mono ?_; rintro e w3 ⟨TA, tn, tc, rfl, ti, htn, hb3⟩; have hk3 : Kept [] W w3 := hk2.call hb3; have hB3 := hk3.below hB hB.size (by simp); have ⟨L3', C3', F3'⟩ := hk3.blk (by simp) B0; have TI := Lib.hid ti; have SI3 := Lib.hid (SI.out.later hb3); clear ti; clear C2' F2'))
  go_upto_region 6 with (first | (go_at_call 15; refine (end_is _ _ _ _ _ _ _ _ _ mn fr ns es path _ (HG.out.later hB3) (HP.out.later hB3) er a cs HF.out).mono ?_; rintro e w4 ⟨rfl, hb4⟩; have hk4 : Kept [] W w4 := hk3.call hb4; have hB4 := hk4.below hB hB.size (by simp); have ⟨L4', C4', F4'⟩ := hk4.blk (by simp) B0; clear C3' F3'))
  go_upto_region 7 with (first | (go_at_call 18; refine (rend_any _ _ _ _ _ _ _ _ _ mn fr ns es path _ (HG.out.later hB4) (HP.out.later hB4) er a cs HF.out).mono ?_; rintro e w5 ⟨rfl, hb5⟩; have hk5 : Kept [] W w5 := hk4.call hb5; have hB5 := hk5.below hB hB.size (by simp); have ⟨L5', C5', F5'⟩ := hk5.blk (by simp) B0; clear C4' F4'))
  go_upto_region 8 with (first | (go_at_call 19; refine (pnext_any _ _ _ _ _ _ _ _ _ mn fr ns es path _ (HG.out.later hB5) (HP.out.later hB5) hsm.out ne nx HX.out).mono ?_; rintro e w6 ⟨NA, nn, nc, rfl, ni, hnn, hb6⟩; have hk6 : Kept [] W w6 := hk5.call hb6; have hB6 := hk6.below hB hB.size (by simp); have ⟨L6', C6', F6'⟩ := hk6.blk (by simp) B0; have NI := Lib.hid ni; clear ni; clear C5' F5'))
  go_upto_region 9 with (first | (go_at_call 20; refine (rnext_any _ _ _ _ _ _ _ _ _ mn fr ns es path _ (HG.out.later hB6) (HP.out.later hB6) hsm.out ne nx HX.out).mono ?_; rintro e w7 ⟨MA, mm, mc, rfl, mi, hmm, hb7⟩; have hk7 : Kept [] W w7 := hk6.call hb7; have hB7 := hk7.below hB hB.size (by simp); have ⟨L7', C7', F7'⟩ := hk7.blk (by simp) B0; have MI := Lib.hid mi; have hk37 : Kept [] w3 w7 := ((((Kept.refl [] w3).call hb4).call hb5).call hb6).call hb7; have SI7 := Lib.hid (SI3.out.kept hk37); have TI7 := Lib.hid (TI.out.kept hk37); have NI7 := Lib.hid (NI.out.later hb7); clear mi; clear C6' F6'))
  go_wp2_with fail
  refine (equal_is SA TA sn _ tn _ cs.reverse _ SI7.out TI7.out hsn).mono ?_
  rintro e w8 ⟨rfl, hb8⟩
  have hk8 : Kept [] W w8 := hk7.call hb8
  have hB8 := hk8.below hB hB.size (by simp)
  have ⟨L8', C8', F8'⟩ := hk8.blk (by simp) B0
  clear C7' F7'
  go_wp2_with fail
  refine (equal_is NA MA nn _ mm _ nx _ (NI7.out.later hb8) (MI.out.later hb8) hnn).mono ?_
  rintro e w9 ⟨rfl, hb9⟩
  have hk9 : Kept [] W w9 := hk8.call hb9
  have hB9 := hk9.below hB hB.size (by simp)
  have B9 := hk9.blk (by simp) B0
  have ⟨L9', C9', F9'⟩ := B9
  have HG9 := Lib.hid (HG.out.later hB9)
  have HP9 := Lib.hid (HP.out.later hB9)
  clear C8' F8'
  go_upto_region 11 with fail
  go_region_held3 (fun w' => SX0 w9 w') (repeat' first | (with_reducible assumption) | (with_reducible exact SX0.init _) | (with_reducible exact SX0.refl _) | (with_reducible refine SX0.alloc ?_ _) | (with_reducible refine SX0.call ?_ (by assumption)) | (with_reducible refine SX0.set ?_ _ _ _ ?_) | (with_reducible refine SX0.drew ?_) | (simp; done) | omega | (simp; omega))
    (first | (go_at_call 11; ((with_reducible refine (pcheck_is _ _ _ _ _ _ _ _ _ mn fr ns es path _ (HG9.out.kept (by first | exact (by assumption : SX0 w9 _).1)) (HP9.out.kept (by first | exact (by assumption : SX0 w9 _).1)) er (congrArg Prod.fst HF.out)).mono ?_)); rintro e u1 ⟨rfl, hc1⟩; obtain ⟨hd1, hf1, hg1⟩ := bcell hc1; have hz1 := hc1.size; try simp at hz1) | (go_at_call 21; ((with_reducible refine (rcheck_any _ _ _ _ _ _ _ _ _ mn fr ns es path _ (HG9.out.kept (by first | exact (by assumption : SX0 w9 _).1)) (HP9.out.kept (by first | exact (by assumption : SX0 w9 _).1)) er a cs HF.out).mono ?_)); rintro e u2 ⟨rfl, hc2⟩; obtain ⟨hd2, hf2, hg2⟩ := bcell hc2; have hz2 := hc2.size; try simp at hz2) | (go_at_call 13; ((with_reducible refine (bal_is _ _ _ _ _ _ _ _ _ mn fr ns es path _ (HG9.out.kept (by first | exact (by assumption : SX0 w9 _).1)) (HP9.out.kept (by first | exact (by assumption : SX0 w9 _).1)) bv HBV.out).mono ?_)); rintro e u3 ⟨rfl, hc3⟩; obtain ⟨hd3, hf3, hg3⟩ := bcell hc3; have hz3 := hc3.size; try simp at hz3) | (go_at_call 22; ((with_reducible refine (rbal_is _ _ _ _ _ _ _ _ _ mn fr ns es path _ (HG9.out.kept (by first | exact (by assumption : SX0 w9 _).1)) (HP9.out.kept (by first | exact (by assumption : SX0 w9 _).1)) er a cs HF.out bv HBV.out).mono ?_)); rintro e u4 ⟨rfl, hc4⟩; obtain ⟨hd4, hf4, hg4⟩ := bcell hc4; have hz4 := hc4.size; try simp at hz4) | (go_at_call 12; ((with_reducible refine (awake_any _).mono ?_)); rintro e u5 ⟨rfl, hc5⟩; obtain ⟨hd5, hf5, hg5⟩ := bcell hc5; have hz5 := hc5.size; try simp at hz5))
  all_goals
    go_wp2_with fail
    go_ret
    refine ⟨rfl, Kept.below (X := []) hB9 hB9.size (by simp) ?_⟩
    (repeat' first | (with_reducible assumption) | (with_reducible exact Kept.refl _ _) | (with_reducible refine Kept.alloc ?_ _) | (with_reducible refine Kept.call ?_ (by assumption)) | (with_reducible refine Kept.set ?_ _ _ _ (Or.inr ?_)) | (with_reducible refine Kept.drew ?_) | (simp; done) | omega | (simp; omega))
end Go.Proofs.Ytmjebjjhfoncfaa
