/- The law ExplodedTrail. (Printed by genXy.py.) -/
import Derived.Test.YtffkikhknabddaaGreatXy
import Derived.Test.YtffkikhknabddaaGreatKvz
import Derived.Test.YtffkikhknabddaaGreatXm
namespace Go.Df
open Go.RowKit
namespace If
open Sp
open Classical in
theorem holds_sol {p : Pb} (ho : Ok p) {N : Nat} (hN : p.ns.length = N) {nv d : Int} (h1 : ∃ a, PE p a nv.toNat d.toNat) (h2 : PE p 0 nv.toNat 0) (h0 : 0 ≤ nv) (hd : 0 ≤ d) : holdsS ((List.range N).map (solR p)) ((List.range N).map (solF p)) nv d = true := by
  have hr := h2.rng ho
  have hlt : nv.toNat < N := by omega
  unfold holdsS
  rw [if_neg (by omega)]
  by_cases e : d = 0
  · rw [if_pos e]
    have h3 : true = solR p nv.toNat := solR_eq ⟨fun _ => h2, fun _ => rfl⟩
    simp [gbl, hlt, ← h3]
  · rw [if_neg e]
    have h3 : d ∈ solF p nv.toNat := by
      unfold solF ofNats
      rw [List.mem_map]
      refine ⟨d.toNat, ?_, by omega⟩
      obtain ⟨a, ha⟩ := h1
      have hr2 := ha.rng ho
      rw [List.mem_filter, List.mem_range]
      refine ⟨by omega, ?_⟩
      rw [Bool.and_eq_true]
      exact ⟨by simp; omega, decide_eq_true ⟨a, ha⟩⟩
    simp [gil, hlt, h3]
end If
end Go.Df
namespace Go.Proofs.YtffkikhknabddaaGreat
open Go.RowKit Go.Df Go.Df.If
attribute [local go_sem ↓] Go.wp_at_zero Go.wp_at_succ

set_option maxRecDepth 100000 in
set_option maxHeartbeats 16000000 in
theorem expTrail_any (A1 A2 A3 A4 A5 A6 A7 : Option Addr) (n1 c1 n2 c2 n3 c3 n4 c4 n5 c5 n6 c6 n7 c7 : Nat) (mn F : Int) (ns : List Sp.Nd) (es : List Sp.Ed) (ls : List (List Pr)) (sd : List Sd) (path ed fs : List Int) (w : World) (hg : Gr w A1 n1 A2 n2 ns es) (hf : Flw w A3 n3 ls) (hs : Sds w A4 n4 sd) (hp : Ints w A5 n5 path) (hp2 : Ints w A6 n6 ed) (hq2 : Ints w A7 n7 fs) (hc4 : n4 ≤ c4) (hc5 : n5 ≤ c5) (hn7 : n7 ≤ 9223372036854775807) :
    Calls Tryz.prog 3 #[.agg #[.slice A1 n1 c1, .slice A2 n2 c2, .int .i64 mn, .int .i64 F, .slice A3 n3 c3, .slice A4 n4 c4], .slice A5 n5 c5, .agg #[.slice A6 n6 c6, .slice A7 n7 c7]] w fun e w' => e = .returned (.bool true) ∧ Below w.heap.size w w' := by
  have HG := Lib.hid hg
  have HF := Lib.hid hf
  have HS := Lib.hid hs
  have HP := Lib.hid hp
  have HP2 := Lib.hid hp2
  have HQ2 := Lib.hid hq2
  clear hg hf hs hp hp2 hq2
  go_enter Tryz.func3, Tryz.ntmps3
  go_upto_region 1 with fail
  refine wp_named (fun W => ∃ b0 b1, w.heap.size = b0 ∧ w.heap.size + 1 = b1 ∧ Blk W b0 [.slice A1 n1 c1, .slice A2 n2 c2, .int .i64 mn, .int .i64 F, .slice A3 n3 c3, .slice A4 n4 c4] ∧ Blk W b1 [.slice A6 n6 c6, .slice A7 n7 c7] ∧ Below w.heap.size w W) ⟨_, _, rfl, rfl, ?_, ?_, ?_⟩ ?_
  · exact (Blk.new _ _ _ _ (by first | rfl | simp)).alloc _
  · exact Blk.new _ _ _ _ (by first | rfl | simp)
  · go_grown
  rintro W ⟨b0, b1, e0, e1, B0, B1, hB⟩
  rw [e1, e0]
  have G0 : w.heap.size ≤ b0 := by omega
  have n01 : b0 ≠ b1 := by omega
  have G1 : w.heap.size ≤ b1 := by omega
  have n10 : b1 ≠ b0 := by omega
  clear e0 e1
  have ⟨L0, C0, F0⟩ := B0
  have ⟨L1, C1, F1⟩ := B1
  have hkW : Kept [] w W := (Kept.refl _ _).call hB
  go_wp2_with fail
  refine (small31_any A1 A2 A3 A4 n1 c1 n2 c2 n3 c3 n4 c4 mn F ls _ (HF.out.later hB)).mono ?_
  rintro e w1 ⟨⟨s, rfl, hsm⟩, hb1⟩
  have hk1 : Kept [] W w1 := (Kept.refl _ _).call hb1
  have hkw1 : Kept [] w w1 := keptTrans hkW hk1
  have ⟨L1, C1, F1⟩ := hk1.blk (by simp) B0
  have ⟨L1', C1', F1'⟩ := hk1.blk (by simp) B1
  clear C0 F0
  cases s with
  | false =>
    go_wp2_with fail
    go_ret
    exact ⟨rfl, hkw1.toBelow⟩
  | true =>
  have hsz := hsm rfl
  clear hsm
  by_cases t5 : 12 < n5
  · have d5 : decide ((12 : Int) < n5) = true := by simp; omega
    go_wp2_with fail
    go_ret
    exact ⟨rfl, hkw1.toBelow⟩
  have d5 : decide ((12 : Int) < n5) = false := by simp; omega
  by_cases t6 : 40 < n6
  · have d6 : decide ((40 : Int) < n6) = true := by simp; omega
    go_wp2_with fail
    go_ret
    exact ⟨rfl, hkw1.toBelow⟩
  have d6' : decide ((40 : Int) < n6) = false := by simp; omega
  obtain ⟨er, her⟩ : ∃ er, alErr ⟨ns, es, mn, F, ls, sd⟩ path = er := ⟨_, rfl⟩
  have HER := Lib.hid her
  clear her
  go_wp2_with fail
  refine (pAlong_any A1 A2 A3 A4 A5 n1 c1 n2 c2 n3 c3 n4 c4 n5 c5 mn F ns es ls sd path _ (HG.out.kept hkw1) (HF.out.later hkw1.toBelow) (HS.out.later hkw1.toBelow) (HP.out.later hkw1.toBelow) (by omega) hc4 er HER.out).mono ?_
  rintro e w2 ⟨h2, hb2⟩
  have hk2 : Kept [] W w2 := hk1.call hb2
  have hkw2 : Kept [] w w2 := keptTrans hkW hk2
  have ⟨L2, C2, F2⟩ := hk2.blk (by simp) B0
  have ⟨L2', C2', F2'⟩ := hk2.blk (by simp) B1
  clear C1 F1 C1' F1' d5 d6'
  by_cases h0 : er = 0
  case neg =>
    rcases h2 with ⟨-, rfl⟩ | ⟨h9, -⟩
    case inr => exact absurd h9 h0
    have z0 : (er == 0) = false := by simpa using h0
    clear h0
    go_wp2_with fail
    go_loopw [9] (fun s wr => s = .int .i64 0 ∧ w2 = wr) (fun _ _ => 0)
    case atStart => exact ⟨rfl, rfl⟩
    case round =>
    obtain ⟨rfl, rfl⟩ := hrel
    obtain ⟨e2, he2⟩ : ∃ e2, trErr ⟨ns, es, mn, F, ls, sd⟩ ed fs = e2 := ⟨_, rfl⟩
    have HE2 := Lib.hid he2
    clear he2
    go_wp2_with fail
    refine (ptrail_any A1 A2 A3 A4 A6 A7 n1 c1 n2 c2 n3 c3 n4 c4 n6 c6 n7 c7 mn F ns es ls sd ed fs _ (HG.out.kept (keptTrans hkW hk2)) (HF.out.later (keptTrans hkW hk2).toBelow) (HS.out.later (keptTrans hkW hk2).toBelow) (HP2.out.later (keptTrans hkW hk2).toBelow) (HQ2.out.later (keptTrans hkW hk2).toBelow) (by omega) hc4 (by omega) hn7 e2 HE2.out).mono ?_
    rintro e w4 ⟨rfl, hb4⟩
    have hk4 : Kept [] W w4 := Kept.call hk2 hb4
    have hkw4 : Kept [] w w4 := keptTrans hkW hk4
    have B40 := hk4.blk (by simp) B0
    have B41 := hk4.blk (by simp) B1
    have ⟨L40, C40, F40⟩ := B40
    have ⟨L41, C41, F41⟩ := B41
    clear C2 F2 C2' F2' z0
    by_cases hz2 : e2 = 0
    case neg =>
      have z2 : (e2 != 0) = true := by simpa using hz2
      clear hz2
      go_wp2_with fail
      refine (knows31_any _).mono ?_
      rintro e w5 ⟨rfl, hb5⟩
      go_wp2_with fail
      go_ret
      exact ⟨rfl, (hkw4.call hb5).toBelow⟩
    subst hz2
    obtain ⟨hpe2, htr2, hfo2⟩ := err_trD HE2.out
    have HO2 := Lib.hid (ok_of hpe2)
    have HTR2 := Lib.hid htr2
    have HFO2 := Lib.hid hfo2
    have HPI2 := Lib.hid (follow_in hfo2)
    have hn76 : n7 = n6 + 1 := by have := htr2.len; have := HP2.out.1; have := HQ2.out.1; omega
    have HEND := Lib.hid (trail_end HO2.out HTR2.out HFO2.out)
    have hmain := main_in (sup_parts HO2.out.sup).2.2.1
    obtain ⟨mN, hmN⟩ := Int.eq_ofNat_of_zero_le hmain.1
    obtain ⟨Fn, hFn⟩ := Int.eq_ofNat_of_zero_le (show 0 ≤ F by have h9 : 1 ≤ F := HO2.out.f1; omega)
    dsimp only at hmN
    have HNL : Hid (ns.length = n1) := Lib.hid HG.out.nd.1
    have hn1b : n1 ≤ 8192 := by have h9 : ns.length ≤ 8192 := (sup_parts HO2.out.sup).1; have := HNL.out; omega
    have hEL : ed.length = n6 := HP2.out.1
    have HEL := Lib.hid hEL
    have HD7 : Hid (0 ≤ gi fs n6) := Lib.hid (HTR2.out.rng n6 (by have := HTR2.out.len; omega)).1
    clear hpe2 htr2 hfo2 hEL hmain
    subst hn76
    subst hmN
    subst hFn
    go_upto_region 15 with (go_at_call 10; refine (rsolve_ok (p := ⟨ns, es, mN, Fn, ls, sd⟩) A1 A2 A3 A4 n1 c1 n2 c2 n3 c3 n4 c4 mN Fn _ (HG.out.kept hkw4) ⟨(HG.out.kept hkw4).nd, (HG.out.kept hkw4).ed, HF.out.later hkw4.toBelow, HS.out.later hkw4.toBelow, rfl, rfl, HO2.out, by omega⟩).mono ?_; rintro e w5 ⟨B1s, d1s, B2s, d2s, rfl, hr9, hf9, hb5⟩; have HR8 := Lib.hid hr9; have HF8 := Lib.hid hf9; clear hr9 hf9)
    refine wp_named (fun V => ∃ g, w5.heap.size = g ∧ Blk V g [.slice B1s n1 d1s, .slice B2s n1 d2s] ∧ Kept [] w5 V) ⟨_, rfl, Blk.new _ _ _ _ rfl, (Kept.refl _ _).alloc _⟩ ?_
    rintro V ⟨g, eg, Bg, hkV⟩
    rw [eg]
    have hkWV : Kept [] W V := keptTrans (hk4.call hb5) hkV
    have hkwV : Kept [] w V := keptTrans hkW hkWV
    have HR9 := Lib.hid (HR8.out.later hkV.toBelow)
    have HF9 := Lib.hid (HF8.out.later hkV.toBelow)
    have ⟨LG, CG, FG⟩ := Bg
    have ⟨LV0, CV0, FV0⟩ := hkWV.blk (by simp) B0
    have ⟨LV1, CV1, FV1⟩ := hkWV.blk (by simp) B1
    obtain ⟨b7, o7, rfl, hl7, hc7'⟩ := HQ2.out.2 (by omega)
    have r7 := (hkwV.cell b7 _ hl7 (by simp)).trans (hc7' n6 (by omega))
    have hl7V : b7 < V.heap.size := Nat.lt_of_lt_of_le hl7 hkwV.size
    obtain ⟨d7, hd7⟩ : ∃ d7, gi fs n6 = d7 := ⟨_, rfl⟩
    rw [hd7] at r7 HD7
    have HDD := Lib.hid hd7
    clear C40 F40 C41 F41 eg hc7' hd7 B40 B41
    have y1 : (((n6 + 1 : Nat) : Int) == 0) = false := by simp; omega
    have y2 : (n6 + 1 == 0) = false := by simp
    have y3 : ((n6 : Int) + 1 == 0) = false := by simp; omega
    have y5 : IntKind.i64.wrap ((n6 : Int) + 1 - 1) = (n6 : Int) := by rw [IntWalk.i64_in _ (by omega)]; omega
    have y6 : (n6 : Int) < (n6 : Int) + 1 := by omega
    have y7 : (n6 : Int) + 1 - 1 = (n6 : Int) := by omega
    have y8 : IntKind.i64.wrap (n6 : Int) = (n6 : Int) := IntWalk.i64_in _ (by omega)
    have y9 : (0 : Int) ≤ (n6 : Int) ∧ (n6 : Int) < (n6 : Int) + 1 := ⟨by omega, by omega⟩
    have y10 : (0 : Int) ≤ (n6 : Int) := by omega
    by_cases h60 : n6 = 0
    · have d6 : decide ((0 : Int) < (n6 : Int)) = false := by simp; omega
      have d6n : decide (0 < n6) = false := by simp; omega
      have hE := HEND.out
      rw [HEL.out, if_pos h60, HDD.out] at hE
      have HEND1 := Lib.hid hE.1
      have HEND2 := Lib.hid hE.2
      have HNV : Hid (0 ≤ ((mN : Nat) : Int)) := Lib.hid (by omega)
      clear hE h60
      go_upto_region 20 with fail
      have hkVVX : Kept [] V V := Kept.refl _ _
      have hkwVX : Kept [] w V := hkwV
      have HHO := Lib.hid (holds_sol HO2.out HNL.out HEND1.out HEND2.out HNV.out HD7.out)
      refine wp_region_E 14 (fun w' => SX0 V w') (by kernel_rfl) (by (repeat' first | (with_reducible assumption) | (with_reducible exact SX0.init _) | (with_reducible exact SX0.refl _) | (with_reducible refine SX0.alloc ?_ _) | (with_reducible refine SX0.call ?_ (by assumption)) | (with_reducible refine SX0.set ?_ _ _ _ ?_) | (with_reducible refine SX0.drew ?_) | (simp; done) | omega | (simp; omega))) (fun hHeld => ?_)
      refine WE_take 0 (v := ?_) rfl (by kernel_rfl) (fun _ _ _ h => h) (Or.inl ⟨by rfl, ?_⟩) (by assumption) ?_; rotate_left; (· intro w9 hSw; (try dsimp only at hSw); go_simp; try with_reducible rfl); (try simp only [Act.put, List.setIfInBounds_toArray, List.set_cons_zero, List.set_cons_succ])
      refine WE_take 1 (v := ?_) rfl (by kernel_rfl) (fun _ _ _ h => h) (Or.inl ⟨by rfl, ?_⟩) (by assumption) ?_; rotate_left; (· intro w9 hSw; (try dsimp only at hSw); go_simp; try with_reducible rfl); (try simp only [Act.put, List.setIfInBounds_toArray, List.set_cons_zero, List.set_cons_succ])
      refine WE_take 2 (v := ?_) rfl (by kernel_rfl) (fun _ _ _ h => h) (Or.inl ⟨by rfl, ?_⟩) (by assumption) ?_; rotate_left; (· intro w9 hSw; (try dsimp only at hSw); go_simp; try with_reducible rfl); (try simp only [Act.put, List.setIfInBounds_toArray, List.set_cons_zero, List.set_cons_succ])
      refine WE_take 3 (v := ?_) rfl (by kernel_rfl) (fun _ _ _ h => h) (Or.inl ⟨by rfl, ?_⟩) (by assumption) ?_; rotate_left; (· intro w9 hSw; (try dsimp only at hSw); go_simp; try with_reducible rfl); (try simp only [Act.put, List.setIfInBounds_toArray, List.set_cons_zero, List.set_cons_succ])
      refine WE_take 4 (v := ?_) rfl (by kernel_rfl) (fun _ _ _ h => h) (Or.inl ⟨by rfl, ?_⟩) (by assumption) ?_; rotate_left; (· intro w9 hSw; (try dsimp only at hSw); go_simp; try with_reducible rfl); (try simp only [Act.put, List.setIfInBounds_toArray, List.set_cons_zero, List.set_cons_succ])
      refine WE_take 5 (v := ?_) rfl (by kernel_rfl) (fun _ _ _ h => h) (Or.inl ⟨by rfl, ?_⟩) (by assumption) ?_; rotate_left; (· intro w9 hSw; (try dsimp only at hSw); go_simp; try with_reducible rfl); (try simp only [Act.put, List.setIfInBounds_toArray, List.set_cons_zero, List.set_cons_succ])
      refine WE_take 6 (v := ?_) rfl (by kernel_rfl) (fun _ _ _ h => h) (Or.inl ⟨by rfl, ?_⟩) (by assumption) ?_; rotate_left; (· intro w9 hSw; (try dsimp only at hSw); go_simp; try with_reducible rfl); (try simp only [Act.put, List.setIfInBounds_toArray, List.set_cons_zero, List.set_cons_succ])
      refine WE_take 7 (v := ?_) rfl (by kernel_rfl) (fun _ _ _ h => h) (Or.inl ⟨by rfl, ?_⟩) (by assumption) ?_; rotate_left; (· intro w9 hSw; (try dsimp only at hSw); go_simp; try with_reducible rfl); (try simp only [Act.put, List.setIfInBounds_toArray, List.set_cons_zero, List.set_cons_succ])
      refine WE_take 8 (v := ?_) rfl (by kernel_rfl) (fun _ _ _ h => h) (Or.inl ⟨by rfl, ?_⟩) (by assumption) ?_; rotate_left; (· intro w9 hSw; (try dsimp only at hSw); go_simp; try with_reducible rfl); (try simp only [Act.put, List.setIfInBounds_toArray, List.set_cons_zero, List.set_cons_succ])
      refine WE_take 9 (v := ?_) rfl (by kernel_rfl) (fun _ _ _ h => h) (Or.inl ⟨by rfl, ?_⟩) (by assumption) ?_; rotate_left; (· intro w9 hSw; (try dsimp only at hSw); go_simp; try with_reducible rfl); (try simp only [Act.put, List.setIfInBounds_toArray, List.set_cons_zero, List.set_cons_succ])
      refine WE_step 10 rfl (by kernel_rfl) (fun K hK => ?_)
      go_simp
      (first | (go_at_call 11; refine (rholds_any B1s B2s n1 d1s n1 d2s _ _ mN d7 _ (HR9.out.later (hkVVX.drew).toBelow) (HF9.out.later (hkVVX.drew).toBelow) (by omega) (by omega)).mono ?_; rw [HHO.out]; rintro e w6 ⟨rfl, hb6⟩) | (go_at_call 9; refine (knows31_any _).mono ?_; rintro e w7 ⟨rfl, hb7⟩))
      (try go_wp2_with fail)
      refine hK.out _ _ ?_ (fun hHeld => ?_)
      · (repeat' first | (with_reducible assumption) | (with_reducible exact SX0.init _) | (with_reducible exact SX0.refl _) | (with_reducible refine SX0.alloc ?_ _) | (with_reducible refine SX0.call ?_ (by assumption)) | (with_reducible refine SX0.set ?_ _ _ _ ?_) | (with_reducible refine SX0.drew ?_) | (simp; done) | omega | (simp; omega))
      clear hK K
      try simp only [Act.put, List.setIfInBounds_toArray, List.set_cons_zero, List.set_cons_succ]
      refine WE_take 11 (v := ?_) rfl (by kernel_rfl) (fun _ _ _ h => h) (Or.inl ⟨by rfl, ?_⟩) (by assumption) ?_; rotate_left; (· intro w9 hSw; (try dsimp only at hSw); go_simp; try with_reducible rfl); (try simp only [Act.put, List.setIfInBounds_toArray, List.set_cons_zero, List.set_cons_succ])
      refine WE_step 12 rfl (by kernel_rfl) (fun K hK => ?_)
      go_simp
      (first | (go_at_call 11; refine (rholds_any B1s B2s n1 d1s n1 d2s _ _ mN d7 _ (HR9.out.later (hkVVX.drew).toBelow) (HF9.out.later (hkVVX.drew).toBelow) (by omega) (by omega)).mono ?_; rw [HHO.out]; rintro e w6 ⟨rfl, hb6⟩) | (go_at_call 9; refine (knows31_any _).mono ?_; rintro e w7 ⟨rfl, hb7⟩))
      (try go_wp2_with fail)
      refine hK.out _ _ ?_ (fun hHeld => ?_)
      · (repeat' first | (with_reducible assumption) | (with_reducible exact SX0.init _) | (with_reducible exact SX0.refl _) | (with_reducible refine SX0.alloc ?_ _) | (with_reducible refine SX0.call ?_ (by assumption)) | (with_reducible refine SX0.set ?_ _ _ _ ?_) | (with_reducible refine SX0.drew ?_) | (simp; done) | omega | (simp; omega))
      clear hK K
      try simp only [Act.put, List.setIfInBounds_toArray, List.set_cons_zero, List.set_cons_succ]
      refine WE_take 13 (v := ?_) rfl (by kernel_rfl) (fun _ _ _ h => h) (Or.inl ⟨by rfl, ?_⟩) (by assumption) ?_; rotate_left; (· intro w9 hSw; (try dsimp only at hSw); go_simp; try with_reducible rfl); (try simp only [Act.put, List.setIfInBounds_toArray, List.set_cons_zero, List.set_cons_succ])
      refine WE_last rfl (by kernel_rfl) (fun K hK => ?_)
      go_simp
      refine hK.out _ _ ?_
      clear hK K
      go_wp2_with fail
      go_ret
      exact ⟨rfl, (keptTrans hkwVX hHeld.1).toBelow⟩
    have h61 : 0 < n6 := by omega
    have d6 : decide ((0 : Int) < (n6 : Int)) = true := decide_eq_true (by omega)
    obtain ⟨b6, o6, rfl, hl6, hc6'⟩ := HP2.out.2 h61
    have hpj := HPI2.out.2 (n6 - 1) (by rw [HEL.out]; omega)
    obtain ⟨k, hk⟩ := Int.eq_ofNat_of_zero_le hpj.1
    have r6 : V.cell? ⟨b6, o6 + (n6 - 1), none⟩ = some (.int .i64 k) := by rw [← hk]; exact (hkwV.cell b6 _ hl6 (by simp)).trans (hc6' (n6 - 1) (by omega))
    have hl6V : b6 < V.heap.size := Nat.lt_of_lt_of_le hl6 hkwV.size
    have hk2 : k < n2 := by have := HG.out.ed.1; omega
    have hk2' : (k : Int) < (n2 : Int) := by omega
    obtain ⟨b2, o2, rfl, hl2, hc2⟩ := HG.out.ed.2 (by omega)
    obtain ⟨nd, hnd⟩ : ∃ nd, (ge es k).b = nd := ⟨_, rfl⟩
    have r2 := (hkwV.cell b2 _ hl2 (by simp)).trans (hc2 k hk2).2.1
    rw [hnd] at r2
    have hl2V : b2 < V.heap.size := Nat.lt_of_lt_of_le hl2 hkwV.size
    have hE := HEND.out
    rw [HEL.out, if_neg h60, HDD.out, hk, Int.toNat_natCast, hnd] at hE
    have HEND1 := Lib.hid hE.1
    have HEND2 := Lib.hid hE.2
    have HNV : Hid (0 ≤ nd) := Lib.hid (by have h9 := sup_edge HO2.out.sup (k := k) (by have := HG.out.ed.1; dsimp only; omega); dsimp only at h9; rw [hnd] at h9; exact h9.2.2.1)
    have w3' : IntKind.i64.wrap ((n6 : Int) - 1) = (n6 : Int) - 1 := IntWalk.i64_in _ (by omega)
    have w4' : (0 : Int) ≤ (n6 : Int) - 1 := by omega
    have w5' : ((n6 : Int) - 1).toNat = n6 - 1 := by omega
    have w7' : (n6 : Int) - 1 < (n6 : Int) := by omega
    have w9' : 1 ≤ n6 := by omega
    have w10' : (1 : Int) ≤ (n6 : Int) := by omega
    clear hE hk hpj hc6' hc2 hnd h60
    go_upto_region 19 with fail
    go_quiet (fail)
    go_upto_region 20 with fail
    refine wp_named (fun VX => Kept [] V VX) ((Kept.refl [] V).drewN _) ?_
    intro VX hkVVX
    have hkwVX : Kept [] w VX := keptTrans hkwV hkVVX
    have ⟨LX0, CX0, FX0⟩ := (keptTrans hkWV hkVVX).blk (by simp) B0
    have ⟨LX1, CX1, FX1⟩ := (keptTrans hkWV hkVVX).blk (by simp) B1
    have BgX := hkVVX.blk (by simp) Bg
    have ⟨LGX, CGX, FGX⟩ := BgX
    have r7x := (hkVVX.cell b7 _ hl7V (by simp)).trans r7
    have hl7X : b7 < VX.heap.size := Nat.lt_of_lt_of_le hl7V hkVVX.size
    clear CV0 FV0 CV1 FV1 CG FG r7 r6 r2
    have HHO := Lib.hid (holds_sol HO2.out HNL.out HEND1.out HEND2.out HNV.out HD7.out)
    refine wp_region_E 14 (fun w' => SX0 VX w') (by kernel_rfl) (by (repeat' first | (with_reducible assumption) | (with_reducible exact SX0.init _) | (with_reducible exact SX0.refl _) | (with_reducible refine SX0.alloc ?_ _) | (with_reducible refine SX0.call ?_ (by assumption)) | (with_reducible refine SX0.set ?_ _ _ _ ?_) | (with_reducible refine SX0.drew ?_) | (simp; done) | omega | (simp; omega))) (fun hHeld => ?_)
    refine WE_take 0 (v := ?_) rfl (by kernel_rfl) (fun _ _ _ h => h) (Or.inl ⟨by rfl, ?_⟩) (by assumption) ?_; rotate_left; (· intro w9 hSw; (try dsimp only at hSw); go_simp; try with_reducible rfl); (try simp only [Act.put, List.setIfInBounds_toArray, List.set_cons_zero, List.set_cons_succ])
    refine WE_take 1 (v := ?_) rfl (by kernel_rfl) (fun _ _ _ h => h) (Or.inl ⟨by rfl, ?_⟩) (by assumption) ?_; rotate_left; (· intro w9 hSw; (try dsimp only at hSw); go_simp; try with_reducible rfl); (try simp only [Act.put, List.setIfInBounds_toArray, List.set_cons_zero, List.set_cons_succ])
    refine WE_take 2 (v := ?_) rfl (by kernel_rfl) (fun _ _ _ h => h) (Or.inl ⟨by rfl, ?_⟩) (by assumption) ?_; rotate_left; (· intro w9 hSw; (try dsimp only at hSw); go_simp; try with_reducible rfl); (try simp only [Act.put, List.setIfInBounds_toArray, List.set_cons_zero, List.set_cons_succ])
    refine WE_take 3 (v := ?_) rfl (by kernel_rfl) (fun _ _ _ h => h) (Or.inl ⟨by rfl, ?_⟩) (by assumption) ?_; rotate_left; (· intro w9 hSw; (try dsimp only at hSw); go_simp; try with_reducible rfl); (try simp only [Act.put, List.setIfInBounds_toArray, List.set_cons_zero, List.set_cons_succ])
    refine WE_take 4 (v := ?_) rfl (by kernel_rfl) (fun _ _ _ h => h) (Or.inl ⟨by rfl, ?_⟩) (by assumption) ?_; rotate_left; (· intro w9 hSw; (try dsimp only at hSw); go_simp; try with_reducible rfl); (try simp only [Act.put, List.setIfInBounds_toArray, List.set_cons_zero, List.set_cons_succ])
    refine WE_take 5 (v := ?_) rfl (by kernel_rfl) (fun _ _ _ h => h) (Or.inl ⟨by rfl, ?_⟩) (by assumption) ?_; rotate_left; (· intro w9 hSw; (try dsimp only at hSw); go_simp; try with_reducible rfl); (try simp only [Act.put, List.setIfInBounds_toArray, List.set_cons_zero, List.set_cons_succ])
    refine WE_take 6 (v := ?_) rfl (by kernel_rfl) (fun _ _ _ h => h) (Or.inl ⟨by rfl, ?_⟩) (by assumption) ?_; rotate_left; (· intro w9 hSw; (try dsimp only at hSw); go_simp; try with_reducible rfl); (try simp only [Act.put, List.setIfInBounds_toArray, List.set_cons_zero, List.set_cons_succ])
    refine WE_take 7 (v := ?_) rfl (by kernel_rfl) (fun _ _ _ h => h) (Or.inl ⟨by rfl, ?_⟩) (by assumption) ?_; rotate_left; (· intro w9 hSw; (try dsimp only at hSw); go_simp; try with_reducible rfl); (try simp only [Act.put, List.setIfInBounds_toArray, List.set_cons_zero, List.set_cons_succ])
    refine WE_take 8 (v := ?_) rfl (by kernel_rfl) (fun _ _ _ h => h) (Or.inl ⟨by rfl, ?_⟩) (by assumption) ?_; rotate_left; (· intro w9 hSw; (try dsimp only at hSw); go_simp; try with_reducible rfl); (try simp only [Act.put, List.setIfInBounds_toArray, List.set_cons_zero, List.set_cons_succ])
    refine WE_take 9 (v := ?_) rfl (by kernel_rfl) (fun _ _ _ h => h) (Or.inl ⟨by rfl, ?_⟩) (by assumption) ?_; rotate_left; (· intro w9 hSw; (try dsimp only at hSw); go_simp; try with_reducible rfl); (try simp only [Act.put, List.setIfInBounds_toArray, List.set_cons_zero, List.set_cons_succ])
    refine WE_step 10 rfl (by kernel_rfl) (fun K hK => ?_)
    go_simp
    (first | (go_at_call 11; refine (rholds_any B1s B2s n1 d1s n1 d2s _ _ nd d7 _ (HR9.out.later (hkVVX.drew).toBelow) (HF9.out.later (hkVVX.drew).toBelow) (by omega) (by omega)).mono ?_; rw [HHO.out]; rintro e w6 ⟨rfl, hb6⟩) | (go_at_call 9; refine (knows31_any _).mono ?_; rintro e w7 ⟨rfl, hb7⟩))
    (try go_wp2_with fail)
    refine hK.out _ _ ?_ (fun hHeld => ?_)
    · (repeat' first | (with_reducible assumption) | (with_reducible exact SX0.init _) | (with_reducible exact SX0.refl _) | (with_reducible refine SX0.alloc ?_ _) | (with_reducible refine SX0.call ?_ (by assumption)) | (with_reducible refine SX0.set ?_ _ _ _ ?_) | (with_reducible refine SX0.drew ?_) | (simp; done) | omega | (simp; omega))
    clear hK K
    try simp only [Act.put, List.setIfInBounds_toArray, List.set_cons_zero, List.set_cons_succ]
    refine WE_take 11 (v := ?_) rfl (by kernel_rfl) (fun _ _ _ h => h) (Or.inl ⟨by rfl, ?_⟩) (by assumption) ?_; rotate_left; (· intro w9 hSw; (try dsimp only at hSw); go_simp; try with_reducible rfl); (try simp only [Act.put, List.setIfInBounds_toArray, List.set_cons_zero, List.set_cons_succ])
    refine WE_step 12 rfl (by kernel_rfl) (fun K hK => ?_)
    go_simp
    (first | (go_at_call 11; refine (rholds_any B1s B2s n1 d1s n1 d2s _ _ nd d7 _ (HR9.out.later (hkVVX.drew).toBelow) (HF9.out.later (hkVVX.drew).toBelow) (by omega) (by omega)).mono ?_; rw [HHO.out]; rintro e w6 ⟨rfl, hb6⟩) | (go_at_call 9; refine (knows31_any _).mono ?_; rintro e w7 ⟨rfl, hb7⟩))
    (try go_wp2_with fail)
    refine hK.out _ _ ?_ (fun hHeld => ?_)
    · (repeat' first | (with_reducible assumption) | (with_reducible exact SX0.init _) | (with_reducible exact SX0.refl _) | (with_reducible refine SX0.alloc ?_ _) | (with_reducible refine SX0.call ?_ (by assumption)) | (with_reducible refine SX0.set ?_ _ _ _ ?_) | (with_reducible refine SX0.drew ?_) | (simp; done) | omega | (simp; omega))
    clear hK K
    try simp only [Act.put, List.setIfInBounds_toArray, List.set_cons_zero, List.set_cons_succ]
    refine WE_take 13 (v := ?_) rfl (by kernel_rfl) (fun _ _ _ h => h) (Or.inl ⟨by rfl, ?_⟩) (by assumption) ?_; rotate_left; (· intro w9 hSw; (try dsimp only at hSw); go_simp; try with_reducible rfl); (try simp only [Act.put, List.setIfInBounds_toArray, List.set_cons_zero, List.set_cons_succ])
    refine WE_last rfl (by kernel_rfl) (fun K hK => ?_)
    go_simp
    refine hK.out _ _ ?_
    clear hK K
    go_wp2_with fail
    go_ret
    exact ⟨rfl, (keptTrans hkwVX hHeld.1).toBelow⟩
  subst h0
  rcases h2 with ⟨h9, -⟩ | ⟨-, Q, m, c, rfl, hi2, hmc⟩
  · exact absurd rfl h9
  have HI2 := Lib.hid hi2
  clear hi2
  have hpe : pbErr ⟨ns, es, mn, F, ls, sd⟩ = 0 := by have := HER.out; unfold alErr at this; split at this; exact this; exact Decidable.byContradiction (by assumption)
  have hfo : (Sp.followS ns es mn mn path).1 = 0 := by have := HER.out; unfold alErr at this; rw [if_neg (not_not_intro hpe)] at this; exact this
  obtain ⟨fe, fa, fc, hfe⟩ : ∃ a b c, Sp.followS ns es mn mn path = (a, b, c) := ⟨_, _, _, rfl⟩
  rw [hfe] at hfo
  dsimp only at hfo
  subst hfo
  have HFE := Lib.hid hfe
  have HPE := Lib.hid hpe
  have HFO : Hid ((Sp.followS ns es mn mn path).1 = 0) := Lib.hid (by rw [hfe])
  have HML := Lib.hid HI2.out.1
  clear hpe hfe
  have hm9 : m ≤ 1024 := by have h9 := alongF_len2T (ok_of HPE.out) (follow_in HFO.out).2; have h8 := HI2.out.1; omega
  go_wp2_with fail
  refine (rcheck_any A1 A2 A5 n1 c1 n2 c2 n5 c5 mn mn ns es path _ (HG.out.kept hkw2) (HP.out.later hkw2.toBelow) 0 fa fc HFE.out).mono ?_
  rintro e w3 ⟨rfl, hb3⟩
  have hk3 : Kept [] W w3 := hk2.call hb3
  have HI3 := Lib.hid (HI2.out.later hb3)
  clear C2 F2 C2' F2'
  have ⟨L3, C3, F3⟩ := hk3.blk (by simp) B0
  have ⟨L3', C3', F3'⟩ := hk3.blk (by simp) B1
  go_wp2_with fail
  go_loopw [9] (fun s wr => ∃ i : Nat, i ≤ m ∧ s = .int .i64 i ∧ Kept [] w3 wr) (fun s _ => m - (intOf s).toNat)
  case atStart => exact ⟨0, Nat.zero_le _, rfl, Kept.refl _ _⟩
  case round =>
  clear C3 F3 C3' F3'
  obtain ⟨i, hi, rfl, hkr3⟩ := hrel
  have hkr : Kept [] W wr := keptTrans hk3 hkr3
  have hkwr : Kept [] w wr := keptTrans hkW hkr
  have ⟨LR, CR, FR⟩ := hkr.blk (by simp) B0
  have ⟨LR', CR', FR'⟩ := hkr.blk (by simp) B1
  by_cases hlt : i < m
  · obtain ⟨bq, oq, rfl, hlq, hcq⟩ := HI3.out.2 (by omega)
    have rq := (hkr3.cell bq _ hlq (by simp)).trans (hcq i hlt)
    have hlqr : bq < wr.heap.size := Nat.lt_of_lt_of_le hlq hkr3.size
    obtain ⟨y, hy⟩ : ∃ y, gi (alongF ⟨ns, es, mn, F, ls, sd⟩ path) i = y := ⟨_, rfl⟩
    rw [hy] at rq
    have HYM : Hid (y = 0 ∨ y ∈ alongF ⟨ns, es, mn, F, ls, sd⟩ path) := Lib.hid (Or.inr (by rw [← hy, gi_lt (by rw [HML.out]; exact hlt)]; exact List.getElem_mem _))
    have hi1 : (i : Int) < (m : Int) := by omega
    clear hcq hy
    go_upto_region 9 with fail
    refine wp_region_E 11 (fun w' => SX0 wr w') (by kernel_rfl) (by (repeat' first | (with_reducible assumption) | (with_reducible exact SX0.init _) | (with_reducible exact SX0.refl _) | (with_reducible refine SX0.alloc ?_ _) | (with_reducible refine SX0.call ?_ (by assumption)) | (with_reducible refine SX0.set ?_ _ _ _ ?_) | (with_reducible refine SX0.drew ?_) | (simp; done) | omega | (simp; omega))) (fun hHeld => ?_)
    refine WE_take 0 (v := ?_) rfl (by kernel_rfl) (fun _ _ _ h => h) (Or.inl ⟨by rfl, ?_⟩) (by assumption) ?_; rotate_left; (· intro w9 hSw; (try dsimp only at hSw); go_simp; try with_reducible rfl); (try simp only [Act.put, List.setIfInBounds_toArray, List.set_cons_zero, List.set_cons_succ])
    refine WE_take 1 (v := ?_) rfl (by kernel_rfl) (fun _ _ _ h => h) (Or.inl ⟨by rfl, ?_⟩) (by assumption) ?_; rotate_left; (· intro w9 hSw; (try dsimp only at hSw); go_simp; try with_reducible rfl); (try simp only [Act.put, List.setIfInBounds_toArray, List.set_cons_zero, List.set_cons_succ])
    refine WE_take 2 (v := ?_) rfl (by kernel_rfl) (fun _ _ _ h => h) (Or.inl ⟨by rfl, ?_⟩) (by assumption) ?_; rotate_left; (· intro w9 hSw; (try dsimp only at hSw); go_simp; try with_reducible rfl); (try simp only [Act.put, List.setIfInBounds_toArray, List.set_cons_zero, List.set_cons_succ])
    refine WE_take 3 (v := ?_) rfl (by kernel_rfl) (fun _ _ _ h => h) (Or.inl ⟨by rfl, ?_⟩) (by assumption) ?_; rotate_left; (· intro w9 hSw; (try dsimp only at hSw); go_simp; try with_reducible rfl); (try simp only [Act.put, List.setIfInBounds_toArray, List.set_cons_zero, List.set_cons_succ])
    refine WE_take 4 (v := ?_) rfl (by kernel_rfl) (fun _ _ _ h => h) (Or.inl ⟨by rfl, ?_⟩) (by assumption) ?_; rotate_left; (· intro w9 hSw; (try dsimp only at hSw); go_simp; try with_reducible rfl); (try simp only [Act.put, List.setIfInBounds_toArray, List.set_cons_zero, List.set_cons_succ])
    refine WE_take 5 (v := ?_) rfl (by kernel_rfl) (fun _ _ _ h => h) (Or.inl ⟨by rfl, ?_⟩) (by assumption) ?_; rotate_left; (· intro w9 hSw; (try dsimp only at hSw); go_simp; try with_reducible rfl); (try simp only [Act.put, List.setIfInBounds_toArray, List.set_cons_zero, List.set_cons_succ])
    refine WE_step 6 rfl (by kernel_rfl) (fun K hK => ?_)
    go_simp
    (go_at_call 7; refine (trail_any n5 A1 A2 A3 A4 A5 n1 c1 n2 c2 n3 c3 n4 c4 c5 mn F y ns es ls sd path _ (HG.out.kept hkwr.drew) (HF.out.later (hkwr.drew).toBelow) (HS.out.later (hkwr.drew).toBelow) (HP.out.later (hkwr.drew).toBelow) (by omega) hc5 HPE.out HFO.out HYM.out).mono ?_; rintro e wx ⟨Q9, m9, q9, fs9, rfl, hown9, hm9', htr9, hb9⟩; have HOW9 := Lib.hid hown9; have HTR9 := Lib.hid htr9; clear hown9 htr9)
    (try go_wp2_with fail)
    refine hK.out _ _ ?_ (fun hHeld => ?_)
    · (repeat' first | (with_reducible assumption) | (with_reducible exact SX0.init _) | (with_reducible exact SX0.refl _) | (with_reducible refine SX0.alloc ?_ _) | (with_reducible refine SX0.call ?_ (by assumption)) | (with_reducible refine SX0.set ?_ _ _ _ ?_) | (with_reducible refine SX0.drew ?_) | (simp; done) | omega | (simp; omega))
    clear hK K
    try simp only [Act.put, List.setIfInBounds_toArray, List.set_cons_zero, List.set_cons_succ]
    refine WE_take 7 (v := ?_) rfl (by kernel_rfl) (fun _ _ _ h => h) (Or.inl ⟨by rfl, ?_⟩) (by assumption) ?_; rotate_left; (· intro w9 hSw; (try dsimp only at hSw); go_simp; try with_reducible rfl); (try simp only [Act.put, List.setIfInBounds_toArray, List.set_cons_zero, List.set_cons_succ])
    refine WE_take 8 (v := ?_) rfl (by kernel_rfl) (fun _ _ _ h => h) (Or.inl ⟨by rfl, ?_⟩) (by assumption) ?_; rotate_left; (· intro w9 hSw; (try dsimp only at hSw); go_simp; try with_reducible rfl); (try simp only [Act.put, List.setIfInBounds_toArray, List.set_cons_zero, List.set_cons_succ])
    refine WE_take 9 (v := ?_) rfl (by kernel_rfl) (fun _ _ _ h => h) (Or.inl ⟨by rfl, ?_⟩) (by assumption) ?_; rotate_left; (· intro w9 hSw; (try dsimp only at hSw); go_simp; try with_reducible rfl); (try simp only [Act.put, List.setIfInBounds_toArray, List.set_cons_zero, List.set_cons_succ])
    refine WE_take 10 (v := ?_) rfl (by kernel_rfl) (fun _ _ _ h => h) (Or.inl ⟨by rfl, ?_⟩) (by assumption) ?_; rotate_left; (· intro w9 hSw; (try dsimp only at hSw); go_simp; try with_reducible rfl); (try simp only [Act.put, List.setIfInBounds_toArray, List.set_cons_zero, List.set_cons_succ])
    refine WE_last rfl (by kernel_rfl) (fun K hK => ?_)
    go_simp
    refine hK.out _ _ ?_
    clear hK K
    have hkx : Kept [] W wx := keptTrans hkr hHeld.1
    have hkwx : Kept [] w wx := keptTrans hkW hkx
    have ⟨LX, CX, FX⟩ := hkx.blk (by simp) B0
    have HER9 := Lib.hid (trD_err HPE.out HTR9.out.1 HFO.out)
    have HI9 := Lib.hid (Ints.ofOwn HOW9.out).1
    have hkx0 : Kept [] wr wx := hHeld.1
    subst hm9'
    clear CR FR CR' FR' rq hHeld
    go_wp2_with (go_at_call 8; refine (ptrail_any A1 A2 A3 A4 A5 Q9 n1 c1 n2 c2 n3 c3 n4 c4 n5 c5 (n5 + 1) q9 mn F ns es ls sd path fs9 _ (HG.out.kept hkwx) (HF.out.later hkwx.toBelow) (HS.out.later hkwx.toBelow) (HP.out.later hkwx.toBelow) HI9.out (by omega) hc4 (by omega) (by omega) 0 HER9.out).mono ?_; rintro e w8 ⟨rfl, hb8⟩)
    exact ⟨⟨i + 1, by omega, by go_num, keptTrans hkr3 (keptTrans hkx0 ((Kept.refl _ _).call hb8))⟩, by simp [intOf]; omega⟩
  obtain rfl : i = m := by omega
  clear hlt hi
  obtain ⟨e2, he2⟩ : ∃ e2, trErr ⟨ns, es, mn, F, ls, sd⟩ ed fs = e2 := ⟨_, rfl⟩
  have HE2 := Lib.hid he2
  clear he2
  go_wp2_with fail
  refine (ptrail_any A1 A2 A3 A4 A6 A7 n1 c1 n2 c2 n3 c3 n4 c4 n6 c6 n7 c7 mn F ns es ls sd ed fs _ (HG.out.kept (keptTrans hkW hkr)) (HF.out.later (keptTrans hkW hkr).toBelow) (HS.out.later (keptTrans hkW hkr).toBelow) (HP2.out.later (keptTrans hkW hkr).toBelow) (HQ2.out.later (keptTrans hkW hkr).toBelow) (by omega) hc4 (by omega) hn7 e2 HE2.out).mono ?_
  rintro e w4 ⟨rfl, hb4⟩
  have hk4 : Kept [] W w4 := Kept.call hkr hb4
  have hkw4 : Kept [] w w4 := keptTrans hkW hk4
  have B40 := hk4.blk (by simp) B0
  have B41 := hk4.blk (by simp) B1
  have ⟨L40, C40, F40⟩ := B40
  have ⟨L41, C41, F41⟩ := B41
  clear CR FR CR' FR'
  by_cases hz2 : e2 = 0
  case neg =>
    have z2 : (e2 != 0) = true := by simpa using hz2
    clear hz2
    go_wp2_with fail
    refine (knows31_any _).mono ?_
    rintro e w5 ⟨rfl, hb5⟩
    go_wp2_with fail
    go_ret
    exact ⟨rfl, (hkw4.call hb5).toBelow⟩
  subst hz2
  obtain ⟨hpe2, htr2, hfo2⟩ := err_trD HE2.out
  have HO2 := Lib.hid (ok_of hpe2)
  have HTR2 := Lib.hid htr2
  have HFO2 := Lib.hid hfo2
  have HPI2 := Lib.hid (follow_in hfo2)
  have hn76 : n7 = n6 + 1 := by have := htr2.len; have := HP2.out.1; have := HQ2.out.1; omega
  have HEND := Lib.hid (trail_end HO2.out HTR2.out HFO2.out)
  have hmain := main_in (sup_parts HO2.out.sup).2.2.1
  obtain ⟨mN, hmN⟩ := Int.eq_ofNat_of_zero_le hmain.1
  obtain ⟨Fn, hFn⟩ := Int.eq_ofNat_of_zero_le (show 0 ≤ F by have h9 : 1 ≤ F := HO2.out.f1; omega)
  dsimp only at hmN
  have HNL : Hid (ns.length = n1) := Lib.hid HG.out.nd.1
  have hn1b : n1 ≤ 8192 := by have h9 : ns.length ≤ 8192 := (sup_parts HO2.out.sup).1; have := HNL.out; omega
  have hEL : ed.length = n6 := HP2.out.1
  have HEL := Lib.hid hEL
  have HD7 : Hid (0 ≤ gi fs n6) := Lib.hid (HTR2.out.rng n6 (by have := HTR2.out.len; omega)).1
  clear hpe2 htr2 hfo2 hEL hmain
  subst hn76
  subst hmN
  subst hFn
  go_upto_region 15 with (go_at_call 10; refine (rsolve_ok (p := ⟨ns, es, mN, Fn, ls, sd⟩) A1 A2 A3 A4 n1 c1 n2 c2 n3 c3 n4 c4 mN Fn _ (HG.out.kept hkw4) ⟨(HG.out.kept hkw4).nd, (HG.out.kept hkw4).ed, HF.out.later hkw4.toBelow, HS.out.later hkw4.toBelow, rfl, rfl, HO2.out, by omega⟩).mono ?_; rintro e w5 ⟨B1s, d1s, B2s, d2s, rfl, hr9, hf9, hb5⟩; have HR8 := Lib.hid hr9; have HF8 := Lib.hid hf9; clear hr9 hf9)
  refine wp_named (fun V => ∃ g, w5.heap.size = g ∧ Blk V g [.slice B1s n1 d1s, .slice B2s n1 d2s] ∧ Kept [] w5 V) ⟨_, rfl, Blk.new _ _ _ _ rfl, (Kept.refl _ _).alloc _⟩ ?_
  rintro V ⟨g, eg, Bg, hkV⟩
  rw [eg]
  have hkWV : Kept [] W V := keptTrans (hk4.call hb5) hkV
  have hkwV : Kept [] w V := keptTrans hkW hkWV
  have HR9 := Lib.hid (HR8.out.later hkV.toBelow)
  have HF9 := Lib.hid (HF8.out.later hkV.toBelow)
  have ⟨LG, CG, FG⟩ := Bg
  have ⟨LV0, CV0, FV0⟩ := hkWV.blk (by simp) B0
  have ⟨LV1, CV1, FV1⟩ := hkWV.blk (by simp) B1
  obtain ⟨b7, o7, rfl, hl7, hc7'⟩ := HQ2.out.2 (by omega)
  have r7 := (hkwV.cell b7 _ hl7 (by simp)).trans (hc7' n6 (by omega))
  have hl7V : b7 < V.heap.size := Nat.lt_of_lt_of_le hl7 hkwV.size
  obtain ⟨d7, hd7⟩ : ∃ d7, gi fs n6 = d7 := ⟨_, rfl⟩
  rw [hd7] at r7 HD7
  have HDD := Lib.hid hd7
  clear C40 F40 C41 F41 eg hc7' hd7 B40 B41
  have y1 : (((n6 + 1 : Nat) : Int) == 0) = false := by simp; omega
  have y2 : (n6 + 1 == 0) = false := by simp
  have y3 : ((n6 : Int) + 1 == 0) = false := by simp; omega
  have y5 : IntKind.i64.wrap ((n6 : Int) + 1 - 1) = (n6 : Int) := by rw [IntWalk.i64_in _ (by omega)]; omega
  have y6 : (n6 : Int) < (n6 : Int) + 1 := by omega
  have y7 : (n6 : Int) + 1 - 1 = (n6 : Int) := by omega
  have y8 : IntKind.i64.wrap (n6 : Int) = (n6 : Int) := IntWalk.i64_in _ (by omega)
  have y9 : (0 : Int) ≤ (n6 : Int) ∧ (n6 : Int) < (n6 : Int) + 1 := ⟨by omega, by omega⟩
  have y10 : (0 : Int) ≤ (n6 : Int) := by omega
  by_cases h60 : n6 = 0
  · have d6 : decide ((0 : Int) < (n6 : Int)) = false := by simp; omega
    have d6n : decide (0 < n6) = false := by simp; omega
    have hE := HEND.out
    rw [HEL.out, if_pos h60, HDD.out] at hE
    have HEND1 := Lib.hid hE.1
    have HEND2 := Lib.hid hE.2
    have HNV : Hid (0 ≤ ((mN : Nat) : Int)) := Lib.hid (by omega)
    clear hE h60
    go_upto_region 20 with fail
    have hkVVX : Kept [] V V := Kept.refl _ _
    have hkwVX : Kept [] w V := hkwV
    have HHO := Lib.hid (holds_sol HO2.out HNL.out HEND1.out HEND2.out HNV.out HD7.out)
    refine wp_region_E 14 (fun w' => SX0 V w') (by kernel_rfl) (by (repeat' first | (with_reducible assumption) | (with_reducible exact SX0.init _) | (with_reducible exact SX0.refl _) | (with_reducible refine SX0.alloc ?_ _) | (with_reducible refine SX0.call ?_ (by assumption)) | (with_reducible refine SX0.set ?_ _ _ _ ?_) | (with_reducible refine SX0.drew ?_) | (simp; done) | omega | (simp; omega))) (fun hHeld => ?_)
    refine WE_take 0 (v := ?_) rfl (by kernel_rfl) (fun _ _ _ h => h) (Or.inl ⟨by rfl, ?_⟩) (by assumption) ?_; rotate_left; (· intro w9 hSw; (try dsimp only at hSw); go_simp; try with_reducible rfl); (try simp only [Act.put, List.setIfInBounds_toArray, List.set_cons_zero, List.set_cons_succ])
    refine WE_take 1 (v := ?_) rfl (by kernel_rfl) (fun _ _ _ h => h) (Or.inl ⟨by rfl, ?_⟩) (by assumption) ?_; rotate_left; (· intro w9 hSw; (try dsimp only at hSw); go_simp; try with_reducible rfl); (try simp only [Act.put, List.setIfInBounds_toArray, List.set_cons_zero, List.set_cons_succ])
    refine WE_take 2 (v := ?_) rfl (by kernel_rfl) (fun _ _ _ h => h) (Or.inl ⟨by rfl, ?_⟩) (by assumption) ?_; rotate_left; (· intro w9 hSw; (try dsimp only at hSw); go_simp; try with_reducible rfl); (try simp only [Act.put, List.setIfInBounds_toArray, List.set_cons_zero, List.set_cons_succ])
    refine WE_take 3 (v := ?_) rfl (by kernel_rfl) (fun _ _ _ h => h) (Or.inl ⟨by rfl, ?_⟩) (by assumption) ?_; rotate_left; (· intro w9 hSw; (try dsimp only at hSw); go_simp; try with_reducible rfl); (try simp only [Act.put, List.setIfInBounds_toArray, List.set_cons_zero, List.set_cons_succ])
    refine WE_take 4 (v := ?_) rfl (by kernel_rfl) (fun _ _ _ h => h) (Or.inl ⟨by rfl, ?_⟩) (by assumption) ?_; rotate_left; (· intro w9 hSw; (try dsimp only at hSw); go_simp; try with_reducible rfl); (try simp only [Act.put, List.setIfInBounds_toArray, List.set_cons_zero, List.set_cons_succ])
    refine WE_take 5 (v := ?_) rfl (by kernel_rfl) (fun _ _ _ h => h) (Or.inl ⟨by rfl, ?_⟩) (by assumption) ?_; rotate_left; (· intro w9 hSw; (try dsimp only at hSw); go_simp; try with_reducible rfl); (try simp only [Act.put, List.setIfInBounds_toArray, List.set_cons_zero, List.set_cons_succ])
    refine WE_take 6 (v := ?_) rfl (by kernel_rfl) (fun _ _ _ h => h) (Or.inl ⟨by rfl, ?_⟩) (by assumption) ?_; rotate_left; (· intro w9 hSw; (try dsimp only at hSw); go_simp; try with_reducible rfl); (try simp only [Act.put, List.setIfInBounds_toArray, List.set_cons_zero, List.set_cons_succ])
    refine WE_take 7 (v := ?_) rfl (by kernel_rfl) (fun _ _ _ h => h) (Or.inl ⟨by rfl, ?_⟩) (by assumption) ?_; rotate_left; (· intro w9 hSw; (try dsimp only at hSw); go_simp; try with_reducible rfl); (try simp only [Act.put, List.setIfInBounds_toArray, List.set_cons_zero, List.set_cons_succ])
    refine WE_take 8 (v := ?_) rfl (by kernel_rfl) (fun _ _ _ h => h) (Or.inl ⟨by rfl, ?_⟩) (by assumption) ?_; rotate_left; (· intro w9 hSw; (try dsimp only at hSw); go_simp; try with_reducible rfl); (try simp only [Act.put, List.setIfInBounds_toArray, List.set_cons_zero, List.set_cons_succ])
    refine WE_take 9 (v := ?_) rfl (by kernel_rfl) (fun _ _ _ h => h) (Or.inl ⟨by rfl, ?_⟩) (by assumption) ?_; rotate_left; (· intro w9 hSw; (try dsimp only at hSw); go_simp; try with_reducible rfl); (try simp only [Act.put, List.setIfInBounds_toArray, List.set_cons_zero, List.set_cons_succ])
    refine WE_step 10 rfl (by kernel_rfl) (fun K hK => ?_)
    go_simp
    (first | (go_at_call 11; refine (rholds_any B1s B2s n1 d1s n1 d2s _ _ mN d7 _ (HR9.out.later (hkVVX.drew).toBelow) (HF9.out.later (hkVVX.drew).toBelow) (by omega) (by omega)).mono ?_; rw [HHO.out]; rintro e w6 ⟨rfl, hb6⟩) | (go_at_call 9; refine (knows31_any _).mono ?_; rintro e w7 ⟨rfl, hb7⟩))
    (try go_wp2_with fail)
    refine hK.out _ _ ?_ (fun hHeld => ?_)
    · (repeat' first | (with_reducible assumption) | (with_reducible exact SX0.init _) | (with_reducible exact SX0.refl _) | (with_reducible refine SX0.alloc ?_ _) | (with_reducible refine SX0.call ?_ (by assumption)) | (with_reducible refine SX0.set ?_ _ _ _ ?_) | (with_reducible refine SX0.drew ?_) | (simp; done) | omega | (simp; omega))
    clear hK K
    try simp only [Act.put, List.setIfInBounds_toArray, List.set_cons_zero, List.set_cons_succ]
    refine WE_take 11 (v := ?_) rfl (by kernel_rfl) (fun _ _ _ h => h) (Or.inl ⟨by rfl, ?_⟩) (by assumption) ?_; rotate_left; (· intro w9 hSw; (try dsimp only at hSw); go_simp; try with_reducible rfl); (try simp only [Act.put, List.setIfInBounds_toArray, List.set_cons_zero, List.set_cons_succ])
    refine WE_step 12 rfl (by kernel_rfl) (fun K hK => ?_)
    go_simp
    (first | (go_at_call 11; refine (rholds_any B1s B2s n1 d1s n1 d2s _ _ mN d7 _ (HR9.out.later (hkVVX.drew).toBelow) (HF9.out.later (hkVVX.drew).toBelow) (by omega) (by omega)).mono ?_; rw [HHO.out]; rintro e w6 ⟨rfl, hb6⟩) | (go_at_call 9; refine (knows31_any _).mono ?_; rintro e w7 ⟨rfl, hb7⟩))
    (try go_wp2_with fail)
    refine hK.out _ _ ?_ (fun hHeld => ?_)
    · (repeat' first | (with_reducible assumption) | (with_reducible exact SX0.init _) | (with_reducible exact SX0.refl _) | (with_reducible refine SX0.alloc ?_ _) | (with_reducible refine SX0.call ?_ (by assumption)) | (with_reducible refine SX0.set ?_ _ _ _ ?_) | (with_reducible refine SX0.drew ?_) | (simp; done) | omega | (simp; omega))
    clear hK K
    try simp only [Act.put, List.setIfInBounds_toArray, List.set_cons_zero, List.set_cons_succ]
    refine WE_take 13 (v := ?_) rfl (by kernel_rfl) (fun _ _ _ h => h) (Or.inl ⟨by rfl, ?_⟩) (by assumption) ?_; rotate_left; (· intro w9 hSw; (try dsimp only at hSw); go_simp; try with_reducible rfl); (try simp only [Act.put, List.setIfInBounds_toArray, List.set_cons_zero, List.set_cons_succ])
    refine WE_last rfl (by kernel_rfl) (fun K hK => ?_)
    go_simp
    refine hK.out _ _ ?_
    clear hK K
    go_wp2_with fail
    go_ret
    exact ⟨rfl, (keptTrans hkwVX hHeld.1).toBelow⟩
  have h61 : 0 < n6 := by omega
  have d6 : decide ((0 : Int) < (n6 : Int)) = true := decide_eq_true (by omega)
  obtain ⟨b6, o6, rfl, hl6, hc6'⟩ := HP2.out.2 h61
  have hpj := HPI2.out.2 (n6 - 1) (by rw [HEL.out]; omega)
  obtain ⟨k, hk⟩ := Int.eq_ofNat_of_zero_le hpj.1
  have r6 : V.cell? ⟨b6, o6 + (n6 - 1), none⟩ = some (.int .i64 k) := by rw [← hk]; exact (hkwV.cell b6 _ hl6 (by simp)).trans (hc6' (n6 - 1) (by omega))
  have hl6V : b6 < V.heap.size := Nat.lt_of_lt_of_le hl6 hkwV.size
  have hk2 : k < n2 := by have := HG.out.ed.1; omega
  have hk2' : (k : Int) < (n2 : Int) := by omega
  obtain ⟨b2, o2, rfl, hl2, hc2⟩ := HG.out.ed.2 (by omega)
  obtain ⟨nd, hnd⟩ : ∃ nd, (ge es k).b = nd := ⟨_, rfl⟩
  have r2 := (hkwV.cell b2 _ hl2 (by simp)).trans (hc2 k hk2).2.1
  rw [hnd] at r2
  have hl2V : b2 < V.heap.size := Nat.lt_of_lt_of_le hl2 hkwV.size
  have hE := HEND.out
  rw [HEL.out, if_neg h60, HDD.out, hk, Int.toNat_natCast, hnd] at hE
  have HEND1 := Lib.hid hE.1
  have HEND2 := Lib.hid hE.2
  have HNV : Hid (0 ≤ nd) := Lib.hid (by have h9 := sup_edge HO2.out.sup (k := k) (by have := HG.out.ed.1; dsimp only; omega); dsimp only at h9; rw [hnd] at h9; exact h9.2.2.1)
  have w3' : IntKind.i64.wrap ((n6 : Int) - 1) = (n6 : Int) - 1 := IntWalk.i64_in _ (by omega)
  have w4' : (0 : Int) ≤ (n6 : Int) - 1 := by omega
  have w5' : ((n6 : Int) - 1).toNat = n6 - 1 := by omega
  have w7' : (n6 : Int) - 1 < (n6 : Int) := by omega
  have w9' : 1 ≤ n6 := by omega
  have w10' : (1 : Int) ≤ (n6 : Int) := by omega
  clear hE hk hpj hc6' hc2 hnd h60
  go_upto_region 19 with fail
  go_quiet (fail)
  go_upto_region 20 with fail
  refine wp_named (fun VX => Kept [] V VX) ((Kept.refl [] V).drewN _) ?_
  intro VX hkVVX
  have hkwVX : Kept [] w VX := keptTrans hkwV hkVVX
  have ⟨LX0, CX0, FX0⟩ := (keptTrans hkWV hkVVX).blk (by simp) B0
  have ⟨LX1, CX1, FX1⟩ := (keptTrans hkWV hkVVX).blk (by simp) B1
  have BgX := hkVVX.blk (by simp) Bg
  have ⟨LGX, CGX, FGX⟩ := BgX
  have r7x := (hkVVX.cell b7 _ hl7V (by simp)).trans r7
  have hl7X : b7 < VX.heap.size := Nat.lt_of_lt_of_le hl7V hkVVX.size
  clear CV0 FV0 CV1 FV1 CG FG r7 r6 r2
  have HHO := Lib.hid (holds_sol HO2.out HNL.out HEND1.out HEND2.out HNV.out HD7.out)
  refine wp_region_E 14 (fun w' => SX0 VX w') (by kernel_rfl) (by (repeat' first | (with_reducible assumption) | (with_reducible exact SX0.init _) | (with_reducible exact SX0.refl _) | (with_reducible refine SX0.alloc ?_ _) | (with_reducible refine SX0.call ?_ (by assumption)) | (with_reducible refine SX0.set ?_ _ _ _ ?_) | (with_reducible refine SX0.drew ?_) | (simp; done) | omega | (simp; omega))) (fun hHeld => ?_)
  refine WE_take 0 (v := ?_) rfl (by kernel_rfl) (fun _ _ _ h => h) (Or.inl ⟨by rfl, ?_⟩) (by assumption) ?_; rotate_left; (· intro w9 hSw; (try dsimp only at hSw); go_simp; try with_reducible rfl); (try simp only [Act.put, List.setIfInBounds_toArray, List.set_cons_zero, List.set_cons_succ])
  refine WE_take 1 (v := ?_) rfl (by kernel_rfl) (fun _ _ _ h => h) (Or.inl ⟨by rfl, ?_⟩) (by assumption) ?_; rotate_left; (· intro w9 hSw; (try dsimp only at hSw); go_simp; try with_reducible rfl); (try simp only [Act.put, List.setIfInBounds_toArray, List.set_cons_zero, List.set_cons_succ])
  refine WE_take 2 (v := ?_) rfl (by kernel_rfl) (fun _ _ _ h => h) (Or.inl ⟨by rfl, ?_⟩) (by assumption) ?_; rotate_left; (· intro w9 hSw; (try dsimp only at hSw); go_simp; try with_reducible rfl); (try simp only [Act.put, List.setIfInBounds_toArray, List.set_cons_zero, List.set_cons_succ])
  refine WE_take 3 (v := ?_) rfl (by kernel_rfl) (fun _ _ _ h => h) (Or.inl ⟨by rfl, ?_⟩) (by assumption) ?_; rotate_left; (· intro w9 hSw; (try dsimp only at hSw); go_simp; try with_reducible rfl); (try simp only [Act.put, List.setIfInBounds_toArray, List.set_cons_zero, List.set_cons_succ])
  refine WE_take 4 (v := ?_) rfl (by kernel_rfl) (fun _ _ _ h => h) (Or.inl ⟨by rfl, ?_⟩) (by assumption) ?_; rotate_left; (· intro w9 hSw; (try dsimp only at hSw); go_simp; try with_reducible rfl); (try simp only [Act.put, List.setIfInBounds_toArray, List.set_cons_zero, List.set_cons_succ])
  refine WE_take 5 (v := ?_) rfl (by kernel_rfl) (fun _ _ _ h => h) (Or.inl ⟨by rfl, ?_⟩) (by assumption) ?_; rotate_left; (· intro w9 hSw; (try dsimp only at hSw); go_simp; try with_reducible rfl); (try simp only [Act.put, List.setIfInBounds_toArray, List.set_cons_zero, List.set_cons_succ])
  refine WE_take 6 (v := ?_) rfl (by kernel_rfl) (fun _ _ _ h => h) (Or.inl ⟨by rfl, ?_⟩) (by assumption) ?_; rotate_left; (· intro w9 hSw; (try dsimp only at hSw); go_simp; try with_reducible rfl); (try simp only [Act.put, List.setIfInBounds_toArray, List.set_cons_zero, List.set_cons_succ])
  refine WE_take 7 (v := ?_) rfl (by kernel_rfl) (fun _ _ _ h => h) (Or.inl ⟨by rfl, ?_⟩) (by assumption) ?_; rotate_left; (· intro w9 hSw; (try dsimp only at hSw); go_simp; try with_reducible rfl); (try simp only [Act.put, List.setIfInBounds_toArray, List.set_cons_zero, List.set_cons_succ])
  refine WE_take 8 (v := ?_) rfl (by kernel_rfl) (fun _ _ _ h => h) (Or.inl ⟨by rfl, ?_⟩) (by assumption) ?_; rotate_left; (· intro w9 hSw; (try dsimp only at hSw); go_simp; try with_reducible rfl); (try simp only [Act.put, List.setIfInBounds_toArray, List.set_cons_zero, List.set_cons_succ])
  refine WE_take 9 (v := ?_) rfl (by kernel_rfl) (fun _ _ _ h => h) (Or.inl ⟨by rfl, ?_⟩) (by assumption) ?_; rotate_left; (· intro w9 hSw; (try dsimp only at hSw); go_simp; try with_reducible rfl); (try simp only [Act.put, List.setIfInBounds_toArray, List.set_cons_zero, List.set_cons_succ])
  refine WE_step 10 rfl (by kernel_rfl) (fun K hK => ?_)
  go_simp
  (first | (go_at_call 11; refine (rholds_any B1s B2s n1 d1s n1 d2s _ _ nd d7 _ (HR9.out.later (hkVVX.drew).toBelow) (HF9.out.later (hkVVX.drew).toBelow) (by omega) (by omega)).mono ?_; rw [HHO.out]; rintro e w6 ⟨rfl, hb6⟩) | (go_at_call 9; refine (knows31_any _).mono ?_; rintro e w7 ⟨rfl, hb7⟩))
  (try go_wp2_with fail)
  refine hK.out _ _ ?_ (fun hHeld => ?_)
  · (repeat' first | (with_reducible assumption) | (with_reducible exact SX0.init _) | (with_reducible exact SX0.refl _) | (with_reducible refine SX0.alloc ?_ _) | (with_reducible refine SX0.call ?_ (by assumption)) | (with_reducible refine SX0.set ?_ _ _ _ ?_) | (with_reducible refine SX0.drew ?_) | (simp; done) | omega | (simp; omega))
  clear hK K
  try simp only [Act.put, List.setIfInBounds_toArray, List.set_cons_zero, List.set_cons_succ]
  refine WE_take 11 (v := ?_) rfl (by kernel_rfl) (fun _ _ _ h => h) (Or.inl ⟨by rfl, ?_⟩) (by assumption) ?_; rotate_left; (· intro w9 hSw; (try dsimp only at hSw); go_simp; try with_reducible rfl); (try simp only [Act.put, List.setIfInBounds_toArray, List.set_cons_zero, List.set_cons_succ])
  refine WE_step 12 rfl (by kernel_rfl) (fun K hK => ?_)
  go_simp
  (first | (go_at_call 11; refine (rholds_any B1s B2s n1 d1s n1 d2s _ _ nd d7 _ (HR9.out.later (hkVVX.drew).toBelow) (HF9.out.later (hkVVX.drew).toBelow) (by omega) (by omega)).mono ?_; rw [HHO.out]; rintro e w6 ⟨rfl, hb6⟩) | (go_at_call 9; refine (knows31_any _).mono ?_; rintro e w7 ⟨rfl, hb7⟩))
  (try go_wp2_with fail)
  refine hK.out _ _ ?_ (fun hHeld => ?_)
  · (repeat' first | (with_reducible assumption) | (with_reducible exact SX0.init _) | (with_reducible exact SX0.refl _) | (with_reducible refine SX0.alloc ?_ _) | (with_reducible refine SX0.call ?_ (by assumption)) | (with_reducible refine SX0.set ?_ _ _ _ ?_) | (with_reducible refine SX0.drew ?_) | (simp; done) | omega | (simp; omega))
  clear hK K
  try simp only [Act.put, List.setIfInBounds_toArray, List.set_cons_zero, List.set_cons_succ]
  refine WE_take 13 (v := ?_) rfl (by kernel_rfl) (fun _ _ _ h => h) (Or.inl ⟨by rfl, ?_⟩) (by assumption) ?_; rotate_left; (· intro w9 hSw; (try dsimp only at hSw); go_simp; try with_reducible rfl); (try simp only [Act.put, List.setIfInBounds_toArray, List.set_cons_zero, List.set_cons_succ])
  refine WE_last rfl (by kernel_rfl) (fun K hK => ?_)
  go_simp
  refine hK.out _ _ ?_
  clear hK K
  go_wp2_with fail
  go_ret
  exact ⟨rfl, (keptTrans hkwVX hHeld.1).toBelow⟩
end Go.Proofs.YtffkikhknabddaaGreat
