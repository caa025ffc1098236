/- The walk of VpathReached. -/
import Derived.Test.YtffkikhknabddaaUo
import Derived.Test.YtffkikhknabddaaVe
import Derived.Test.YtffkikhknabddaaWb
import Derived.Test.YtffkikhknabddaaLe
namespace Go.Df
open Go.RowKit
namespace Rc
open Sp If
theorem run_nn {es : List Ed} (hes : ∀ k, k < es.length → 0 ≤ (ge es k).b) : ∀ (path : List Int) (a : Int) (cs : List Int), 0 ≤ a → (runS es a cs path).1 = 0 → 0 ≤ (runS es a cs path).2.1
  | [], a, cs, h, _ => h
  | k :: r, a, cs, h0, h => by
    rw [runS] at h ⊢
    by_cases h1 : (stepS es a cs k).1 ≠ 0
    · rw [if_pos h1] at h; exact absurd h h1
    · rw [if_neg h1] at h ⊢
      refine run_nn hes r _ _ ?_ h
      unfold stepS at h1 ⊢
      have hb : ¬ (k < 0 ∨ (es.length : Int) ≤ k) → 0 ≤ (ge es k.toNat).b := fun hk => hes _ (by omega)
      (repeat' split) <;> first | (simp; done) | (exact hb (by assumption)) | (simp_all; done)
theorem follow_reached {ns : List Nd} {es : List Ed} {m : Int} (hs : superErr ns es m = 0) {path : List Int} (h : (followS ns es m m path).1 = 0) : ∃ n : Nat, (followS ns es m m path).2.1 = (n : Int) ∧ n < ns.length ∧ RE es m n := by
  unfold followS at h ⊢
  split at h
  · exact absurd h (by assumption)
  · rename_i h1
    rw [if_neg h1]
    split at h
    · cases h
    · rename_i h2
      rw [if_neg h2]
      have hm := main_in (sup_parts hs).2.2.1
      have h3 := run_nn (fun k hk => (sup_edge hs hk).2.2.1) path m [] hm.1 h
      have h4 := run_reached hs path m [] hm.1 .main (by simp) h
      exact ⟨_, (Int.toNat_of_nonneg h3).symm, h4.lt hs, h4⟩
end Rc
end Go.Df
namespace Go.Proofs.Ytffkikhknabddaa
open Go.RowKit Go.Df Go.Df.If Go.Df.Rc
attribute [local go_sem ↓] Go.wp_at_zero Go.wp_at_succ

set_option maxRecDepth 100000 in
set_option maxHeartbeats 20000000 in
theorem vreached_any (A1 A2 A3 : Option Addr) (n1 c1 n2 c2 n3 c3 : Nat) (mn : Int) (ns : List Sp.Nd) (es : List Sp.Ed) (path : List Int) (w : World) (hg : Gr w A1 n1 A2 n2 ns es) (hp : Ints w A3 n3 path) :
    Calls Try.prog 3 #[.agg #[.slice A1 n1 c1, .slice A2 n2 c2, .int .i64 mn], .slice A3 n3 c3] w fun e w' => e = .returned (.bool true) ∧ Below w.heap.size w w' := by
  have HG := Lib.hid hg
  have HP := Lib.hid hp
  have HL3 := Lib.hid hp.1
  clear hg hp
  go_enter Try.func3, Try.ntmps3
  go_upto_region 1 with fail
  refine wp_named (fun W => ∃ b0, w.heap.size = b0 ∧ Blk W b0 [.slice A1 n1 c1, .slice A2 n2 c2, .int .i64 mn] ∧ Below w.heap.size w W) ⟨_, rfl, ?_, ?_⟩ ?_
  · exact Blk.new _ _ _ _ (by first | rfl | simp)
  · go_grown
  rintro W ⟨b0, e0, B0, hB⟩
  rw [e0]
  have G0 : w.heap.size ≤ b0 := by omega
  clear e0
  have ⟨L0, C0, F0⟩ := B0
  have hkW : Kept [] w W := (Kept.refl _ _).call hB
  obtain ⟨v, hv⟩ : ∃ v, v = (decide (n1 ≤ 40) && decide (n2 ≤ 120)) := ⟨_, rfl⟩
  have HV := Lib.hid hv
  clear hv
  cases v with
  | false =>
    go_wp2_with (first
      | (go_at_call 14; refine (small_any _ _ _ _ _ _ _ false HV.out _).mono ?_; rintro e w1 ⟨rfl, hb1⟩)
      | (go_at_call 15; refine (awake_any _).mono ?_; rintro e w2 ⟨rfl, hb2⟩))
    go_ret
    exact ⟨rfl, (((Kept.refl [] W).call hb1).call hb2).below hB hB.size (by simp)⟩
  | true =>
  by_cases h60 : 300 < n3
  · have d60 : decide ((300 : Int) < (n3 : Int)) = true := by simp; omega
    go_wp2_with (first
      | (go_at_call 14; refine (small_any _ _ _ _ _ _ _ true HV.out _).mono ?_; rintro e w1 ⟨rfl, hb1⟩)
      | (go_at_call 15; refine (awake_any _).mono ?_; rintro e w2 ⟨rfl, hb2⟩))
    go_ret
    exact ⟨rfl, (((Kept.refl [] W).call hb1).call hb2).below hB hB.size (by simp)⟩
  have d60 : decide ((300 : Int) < (n3 : Int)) = false := by simp; omega
  have hn40 : n1 ≤ 8192 := by
    have h := HV.out
    simp only [Bool.true_eq, Bool.and_eq_true, decide_eq_true_eq] at h
    omega
  go_upto_region 3 with (first | (go_at_call 14; refine (small_any _ _ _ _ _ _ _ true HV.out _).mono ?_; rintro e w1 ⟨rfl, hb1⟩))
  have hk1 : Kept [] W w1 := (Kept.refl _ _).call hb1
  have hB1 := hk1.below hB hB.size (by simp)
  have ⟨L1', C1', F1'⟩ := hk1.blk (by simp) B0
  clear C0 F0
  go_upto_region 4 with fail
  refine (preached_any A1 A2 n1 c1 n2 c2 mn ns es _ (HG.out.later hB1)).mono ?_
  rintro e w2 ⟨hb2, hr2⟩
  have hk2 : Kept [] W w2 := hk1.call hb2
  have hB2 := hk2.below hB hB.size (by simp)
  have ⟨L2', C2', F2'⟩ := hk2.blk (by simp) B0
  clear C1' F1'
  obtain ⟨er, hfo⟩ : ∃ er, (Sp.followS ns es mn mn path).1 = er := ⟨_, rfl⟩
  have HFO := Lib.hid hfo
  clear hfo
  rcases hr2 with ⟨hse, rfl⟩ | ⟨hs0, g, f, rfl, hg2, hc2, hf2⟩
  · as_aux_lemma =>
    have HSE := Lib.hid hse
    obtain ⟨se, hse2⟩ : ∃ se, Sp.superErr ns es mn = se := ⟨_, rfl⟩
    rw [hse2] at hse ⊢
    have q0 : (se != se) = false := by simp
    have q1 : (se == 0) = false := by simpa using hse
    have HS2 := Lib.hid hse2
    clear hse hse2
    go_upto_region 4 with fail
    go_upto_region 5 with fail
    refine (rreached_any A1 A2 n1 c1 n2 c2 mn ns es _ (HG.out.later hB2)).mono ?_
    rintro e w3 ⟨hb3, hr3⟩
    have hk3 : Kept [] W w3 := hk2.call hb3
    have hB3 := hk3.below hB hB.size (by simp)
    have ⟨L3', C3', F3'⟩ := hk3.blk (by simp) B0
    clear C2' F2'
    rcases hr3 with ⟨-, rfl⟩ | ⟨h, -⟩
    · rw [HS2.out]
      go_upto_region 5 with fail
      go_wp2_with fail
      go_loopw [9] (fun s9 wq => s9 = .int .i64 0 ∧ wq = w3) (fun _ _ => 0)
      case atStart => exact ⟨rfl, rfl⟩
      case round =>
      obtain ⟨rfl, rfl⟩ := hrel
      go_wp2_with (first
        | (go_at_call 18; refine (rrun_any _ _ _ _ _ _ _ _ _ mn mn ns es path _ (HG.out.later hB3) (HP.out.later hB3)).mono ?_; rintro e w4 ⟨A, n, c, rfl, hS, hn, hb4⟩)
        | (go_at_call 15; refine (awake_any _).mono ?_; rintro e w5 ⟨rfl, hb5⟩))
      -- MARK1
      go_ret
      exact ⟨rfl, (((hk3.call hb4).alloc _).call hb5).below hB hB.size (by simp)⟩
    · exact absurd h HSE.out
  · as_aux_lemma =>
    have HS0 := Lib.hid hs0
    have HF2 := Lib.hid hf2
    have HC2 := Lib.hid hc2
    clear hf2 hc2 hs0
    go_upto_region 4 with fail
    go_upto_region 5 with fail
    -- MARK2
    refine (rreached_any A1 A2 n1 c1 n2 c2 mn ns es _ (HG.out.later hB2)).mono ?_
    rintro e w3 ⟨hb3, hr3⟩
    have hk3 : Kept [] W w3 := hk2.call hb3
    have hB3 := hk3.below hB hB.size (by simp)
    have ⟨L3', C3', F3'⟩ := hk3.blk (by simp) B0
    have hk23 : Kept [] w2 w3 := (Kept.refl _ _).call hb3
    clear C2' F2'
    rcases hr3 with ⟨h, -⟩ | ⟨-, g', f', rfl, hg3, hc3, hf3⟩
    · exact absurd HS0.out h
    have hff : f' = f := by
      funext i
      have h1 := hf3 i
      have h2 := HF2.out i
      rw [Bool.eq_iff_iff]
      exact h1.trans h2.symm
    subst hff
    have HC3 := Lib.hid hc3
    have hg23 : g < w3.heap.size := Nat.lt_of_lt_of_le hg2 hk23.size
    have HC23 : Hid (∀ i, i < n1 → w3.cell? ⟨g, i, none⟩ = some (.bool (f' i))) := Lib.hid (fun i hi => (hk23.cell g i hg2 (by simp)).trans (HC2.out i hi))
    clear hc3 hf3 HC2
    go_upto_region 5 with fail
    go_wp2_with fail
    -- MARK3
    go_loopw [9] (fun s9 wq => ∃ i : Nat, i ≤ n1 ∧ s9 = .int .i64 i ∧ Kept [] w3 wq) (fun s9 _ => n1 - (intOf s9).toNat)
    case atStart => exact ⟨0, Nat.zero_le _, rfl, Kept.refl _ _⟩
    case round =>
    rename World => wq
    obtain ⟨i, hi, rfl, hkq⟩ := hrel
    have hgq : g < wq.heap.size := Nat.lt_of_lt_of_le hg23 hkq.size
    have hgq' : g' < wq.heap.size := Nat.lt_of_lt_of_le hg3 hkq.size
    by_cases hlt : i < n1
    · as_aux_lemma =>
      have hin : (i : Int) < (n1 : Int) := by omega
      have d1 := (hkq.cell g i hg23 (by simp)).trans (HC23.out i hlt)
      have d2 := (hkq.cell g' i hg3 (by simp)).trans (HC3.out i hlt)
      have d3 : (f' i != f' i) = false := by simp
      clear C3' F3'
      go_upto_region 10 with fail
      refine wp_region_E 8 (fun w' => SX0 wq w') (by kernel_rfl) (by (repeat' first | (with_reducible assumption) | (with_reducible exact SX0.init _) | (with_reducible exact SX0.refl _) | (with_reducible refine SX0.alloc ?_ _) | (with_reducible refine SX0.call ?_ (by assumption)) | (with_reducible refine SX0.set ?_ _ _ _ ?_) | (with_reducible refine SX0.drew ?_) | (simp; done) | omega | (simp; omega))) (fun hHeld => ?_)
      refine WE_take 0 (v := ?_) rfl (by kernel_rfl) (fun _ _ _ h => h) (Or.inl ⟨by rfl, ?_⟩) (by assumption) ?_; rotate_left; (· intro w9 hSw; (try dsimp only at hSw); go_simp; try with_reducible rfl); (try simp only [Act.put, List.setIfInBounds_toArray, List.set_cons_zero, List.set_cons_succ])
      refine WE_take 1 (v := ?_) rfl (by kernel_rfl) (fun _ _ _ h => h) (Or.inl ⟨by rfl, ?_⟩) (by assumption) ?_; rotate_left; (· intro w9 hSw; (try dsimp only at hSw); go_simp; try with_reducible rfl); (try simp only [Act.put, List.setIfInBounds_toArray, List.set_cons_zero, List.set_cons_succ])
      refine WE_take 2 (v := ?_) rfl (by kernel_rfl) (fun _ _ _ h => h) (Or.inl ⟨by rfl, ?_⟩) (by assumption) ?_; rotate_left; (· intro w9 hSw; (try dsimp only at hSw); go_simp; try with_reducible rfl); (try simp only [Act.put, List.setIfInBounds_toArray, List.set_cons_zero, List.set_cons_succ])
      refine WE_take 3 (v := ?_) rfl (by kernel_rfl) (fun _ _ _ h => h) (Or.inl ⟨by rfl, ?_⟩) (by assumption) ?_; rotate_left; (· intro w9 hSw; (try dsimp only at hSw); go_simp; try with_reducible rfl); (try simp only [Act.put, List.setIfInBounds_toArray, List.set_cons_zero, List.set_cons_succ])
      refine WE_take 4 (v := ?_) rfl (by kernel_rfl) (fun _ _ _ h => h) (Or.inl ⟨by rfl, ?_⟩) (by assumption) ?_; rotate_left; (· intro w9 hSw; (try dsimp only at hSw); go_simp; try with_reducible rfl); (try simp only [Act.put, List.setIfInBounds_toArray, List.set_cons_zero, List.set_cons_succ])
      refine WE_take 5 (v := ?_) rfl (by kernel_rfl) (fun _ _ _ h => h) (Or.inl ⟨by rfl, ?_⟩) (by assumption) ?_; rotate_left; (· intro w9 hSw; (try dsimp only at hSw); go_simp; try with_reducible rfl); (try simp only [Act.put, List.setIfInBounds_toArray, List.set_cons_zero, List.set_cons_succ])
      refine WE_take 6 (v := ?_) rfl (by kernel_rfl) (fun _ _ _ h => h) (Or.inl ⟨by rfl, ?_⟩) (by assumption) ?_; rotate_left; (· intro w9 hSw; (try dsimp only at hSw); go_simp; try with_reducible rfl); (try simp only [Act.put, List.setIfInBounds_toArray, List.set_cons_zero, List.set_cons_succ])
      refine WE_take 7 (v := ?_) rfl (by kernel_rfl) (fun _ _ _ h => h) (Or.inl ⟨by rfl, ?_⟩) (by assumption) ?_; rotate_left; (· intro w9 hSw; (try dsimp only at hSw); go_simp; try with_reducible rfl); (try simp only [Act.put, List.setIfInBounds_toArray, List.set_cons_zero, List.set_cons_succ])
      refine WE_last rfl (by kernel_rfl) (fun K hK => ?_)
      go_simp
      refine hK.out _ _ ?_
      clear hK K
      -- MARK4
      go_wp2_with fail
      exact ⟨⟨i + 1, by omega, by go_num, hkq.drew⟩, by simp [intOf]; omega⟩
    · obtain rfl : i = n1 := by omega
      have hkWq : Kept [] W wq := keptTrans hk3 hkq
      have hBq := hkWq.below hB hB.size (by simp)
      have ⟨Lq', Cq', Fq'⟩ := hkWq.blk (by simp) B0
      clear C3' F3'
      go_upto_region 13 with fail
      refine (rrun_any _ _ _ _ _ _ _ _ _ mn mn ns es path _ (HG.out.later hBq) (HP.out.later hBq)).mono ?_
      rintro e w4 ⟨A, n, c, rfl, hS, hn, hb4⟩
      obtain ⟨fa, hfa⟩ : ∃ fa, (Sp.followS ns es mn mn path).2.1 = fa := ⟨_, rfl⟩
      have HFA := Lib.hid hfa
      rw [hfa, show (Sp.followS ns es mn mn path).1 = er from HFO.out]
      have hkq4 : Kept [] wq w4 := (Kept.refl _ _).call hb4
      clear hfa hS
      by_cases he : er = 0
      · as_aux_lemma =>
        subst he
        obtain ⟨nd, hnd, hlt, hre⟩ := follow_reached HS0.out HFO.out
        rw [show (Sp.followS ns es mn mn path).2.1 = fa from HFA.out] at hnd
        subst hnd
        have hnd1 : nd < i := by have := HG.out.nd.1; omega
        have hnd2 : (nd : Int) < (i : Int) := by omega
        have hfn : f' nd = true := (HF2.out nd).2 hre
        have hgz : g < w4.heap.size := Nat.lt_of_lt_of_le hgq hkq4.size
        have d1 := (hkq4.cell g nd hgq (by simp)).trans ((hkq.cell g nd hg23 (by simp)).trans (HC23.out nd hnd1))
        rw [hfn] at d1
        clear hre hfn
        go_upto_region 13 with fail
        -- MARK5
        go_wp2_with (first
          | (go_at_call 15; refine (awake_any _).mono ?_; rintro e w5 ⟨rfl, hb5⟩))
        go_ret
        exact ⟨rfl, (((hkWq.call hb4).alloc _).call hb5).below hB hB.size (by simp)⟩
      · have q1 : (er == 0) = false := by simpa using he
        clear he
        go_wp2_with (first
          | (go_at_call 15; refine (awake_any _).mono ?_; rintro e w5 ⟨rfl, hb5⟩))
        go_ret
        exact ⟨rfl, (((hkWq.call hb4).alloc _).call hb5).below hB hB.size (by simp)⟩
end Go.Proofs.Ytffkikhknabddaa
