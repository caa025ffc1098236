/- The laws ExplodedAlong and ExplodedCheck. (Printed by genXr.py.) -/
import Derived.Test.YtffkikhknabddaaZy
import Derived.Test.YtffkikhknabddaaXj
import Derived.Test.YtffkikhknabddaaZz
namespace Go.Proofs.Ytffkikhknabddaa
open Go.RowKit Go.Df Go.Df.If
attribute [local go_sem ↓] Go.wp_at_zero Go.wp_at_succ

set_option maxRecDepth 100000 in
set_option maxHeartbeats 4000000 in
theorem samef_any (A B : Option Addr) (n a b : Nat) (l : List Int) (w : World) (hA : Ints w A n l) (hB : Ints w B n l) (hn : n ≤ 9223372036854775807) :
    Calls Try.prog 42 #[.slice A n a, .slice B n b] w fun e w' => e = .returned (.bool true) ∧ Below w.heap.size w w' := by
  have HA := Lib.hid hA
  have HB := Lib.hid hB
  clear hA hB
  go_enter Try.func42, Try.ntmps42
  go_wp2_with fail
  go_loopw [5] (fun s5 wr => ∃ i : Nat, i ≤ n ∧ s5 = .int .i64 i ∧ Kept [] w wr) (fun s5 _ => n - (intOf s5).toNat)
  case atStart => exact ⟨0, Nat.zero_le _, rfl, Kept.refl _ _⟩
  case round =>
  obtain ⟨i, hi, rfl, hkr⟩ := hrel
  by_cases hlt : i < n
  · obtain ⟨b1, o1, rfl, hl1, hc1⟩ := HA.out.2 (by omega)
    obtain ⟨b2, o2, rfl, hl2, hc2⟩ := HB.out.2 (by omega)
    have r1 := (hkr.cell b1 _ hl1 (by simp)).trans (hc1 i hlt)
    have r2 := (hkr.cell b2 _ hl2 (by simp)).trans (hc2 i hlt)
    obtain ⟨x, hx⟩ : ∃ x, gi l i = x := ⟨_, rfl⟩
    rw [hx] at r1 r2
    have l1 : b1 < wr.heap.size := Nat.lt_of_lt_of_le hl1 hkr.size
    have l2 : b2 < wr.heap.size := Nat.lt_of_lt_of_le hl2 hkr.size
    have hi9 : (i : Int) < (n : Int) := by omega
    clear hc1 hc2 hx
    go_upto_region 6 with fail
    go_quiet (fail)
    go_wp2_with fail
    exact ⟨⟨i + 1, by omega, by go_num, hkr.drewN _⟩, by simp [intOf]; omega⟩
  · obtain rfl : i = n := by omega
    go_wp2_with fail
    go_ret
    exact ⟨rfl, hkr.toBelow⟩


set_option maxRecDepth 100000 in
set_option maxHeartbeats 4000000 in
theorem expAlong_any (A1 A2 A3 A4 A5 : Option Addr) (n1 c1 n2 c2 n3 c3 n4 c4 n5 c5 : Nat) (mn F : Int) (ns : List Sp.Nd) (es : List Sp.Ed) (ls : List (List Pr)) (sd : List Sd) (path : List Int) (w : World) (hg : Gr w A1 n1 A2 n2 ns es) (hf : Flw w A3 n3 ls) (hs : Sds w A4 n4 sd) (hp : Ints w A5 n5 path) (hc4 : n4 ≤ c4) :
    Calls Try.prog 10 #[.agg #[.slice A1 n1 c1, .slice A2 n2 c2, .int .i64 mn, .int .i64 F, .slice A3 n3 c3, .slice A4 n4 c4], .slice A5 n5 c5] w fun e w' => e = .returned (.bool true) ∧ Below w.heap.size w w' := by
  have HG := Lib.hid hg
  have HF := Lib.hid hf
  have HS := Lib.hid hs
  have HP := Lib.hid hp
  clear hg hf hs hp
  go_enter Try.func10, Try.ntmps10
  go_upto_region 1 with fail
  refine wp_named (fun W => ∃ b0, w.heap.size = b0 ∧ Blk W b0 [.slice A1 n1 c1, .slice A2 n2 c2, .int .i64 mn, .int .i64 F, .slice A3 n3 c3, .slice A4 n4 c4] ∧ Below w.heap.size w W) ⟨_, rfl, ?_, ?_⟩ ?_
  · exact Blk.new _ _ _ _ (by first | rfl | simp)
  · go_grown
  rintro W ⟨b0, e0, B0, hB⟩
  rw [e0]
  have G0 : w.heap.size ≤ b0 := by omega
  clear e0
  have ⟨L0, C0, F0⟩ := B0
  have hkW : Kept [] w W := (Kept.refl _ _).call hB
  go_wp2_with fail
  refine (small31_any A1 A2 A3 A4 n1 c1 n2 c2 n3 c3 n4 c4 mn F ls _ (HF.out.later hB)).mono ?_
  rintro e w1 ⟨⟨s, rfl, hsm⟩, hb1⟩
  have hk1 : Kept [] W w1 := (Kept.refl _ _).call hb1
  have hkw1 : Kept [] w w1 := keptTrans hkW hk1
  have ⟨L1, C1, F1⟩ := hk1.blk (by simp) B0
  clear C0 F0
  cases s with
  | false =>
    go_wp2_with fail
    go_ret
    exact ⟨rfl, hkw1.toBelow⟩
  | true =>
  have hsz := hsm rfl
  clear hsm
  by_cases t5 : 40 < n5
  · have d5 : decide ((40 : Int) < n5) = true := by simp; omega
    go_wp2_with fail
    go_ret
    exact ⟨rfl, hkw1.toBelow⟩
  have d5 : decide ((40 : Int) < n5) = false := by simp; omega
  obtain ⟨er, her⟩ : ∃ er, alErr ⟨ns, es, mn, F, ls, sd⟩ path = er := ⟨_, rfl⟩
  have HER := Lib.hid her
  clear her
  go_wp2_with fail
  refine (pAlong_any A1 A2 A3 A4 A5 n1 c1 n2 c2 n3 c3 n4 c4 n5 c5 mn F ns es ls sd path _ (HG.out.kept hkw1) (HF.out.later hkw1.toBelow) (HS.out.later hkw1.toBelow) (HP.out.later hkw1.toBelow) (by omega) hc4 er HER.out).mono ?_
  rintro e w2 ⟨h2, hb2⟩
  have hk2 : Kept [] W w2 := hk1.call hb2
  have hkw2 : Kept [] w w2 := keptTrans hkW hk2
  have ⟨L2, C2, F2⟩ := hk2.blk (by simp) B0
  clear C1 F1
  by_cases h0 : er = 0
  case neg =>
    rcases h2 with ⟨-, rfl⟩ | ⟨h9, -⟩
    case inr => exact absurd h9 h0
    go_wp2_with fail
    refine (rAlong_any A1 A2 A3 A4 A5 n1 c1 n2 c2 n3 c3 n4 c4 n5 c5 mn F ns es ls sd path _ (HG.out.kept hkw2) (HF.out.later hkw2.toBelow) (HS.out.later hkw2.toBelow) (HP.out.later hkw2.toBelow) (by omega) er HER.out).mono ?_
    rintro e w3 ⟨h3, hb3⟩
    rcases h3 with ⟨-, rfl⟩ | ⟨h9, -⟩
    case inr => exact absurd h9 h0
    have hkw3 : Kept [] w w3 := hkw2.call hb3
    clear h0
    go_wp2_with fail
    refine (samef_any none none 0 0 0 [] _ (Ints.empty _ _) (Ints.empty _ _) (by omega)).mono ?_
    rintro e w4 ⟨rfl, hb4⟩
    have hkw4 : Kept [] w w4 := hkw3.call hb4
    go_wp2_with fail
    refine (knows31_any _).mono ?_
    rintro e w5 ⟨rfl, hb5⟩
    go_wp2_with fail
    go_ret
    exact ⟨rfl, (hkw4.call hb5).toBelow⟩
  subst h0
  rcases h2 with ⟨h9, -⟩ | ⟨-, Q, m, c, rfl, hi2, hmc⟩
  · exact absurd rfl h9
  have HI2 := Lib.hid hi2
  clear hi2
  go_wp2_with fail
  refine (rAlong_any A1 A2 A3 A4 A5 n1 c1 n2 c2 n3 c3 n4 c4 n5 c5 mn F ns es ls sd path _ (HG.out.kept hkw2) (HF.out.later hkw2.toBelow) (HS.out.later hkw2.toBelow) (HP.out.later hkw2.toBelow) (by omega) 0 HER.out).mono ?_
  rintro e w3 ⟨h3, hb3⟩
  rcases h3 with ⟨h9, -⟩ | ⟨-, Q', m', c', rfl, hi3, hmc'⟩
  · exact absurd rfl h9
  obtain rfl : m = m' := HI2.out.1.symm.trans hi3.1
  have HI3 := Lib.hid hi3
  have HI23 := Lib.hid (HI2.out.later hb3)
  have hkw3 : Kept [] w w3 := hkw2.call hb3
  have hm9 : m ≤ 9223372036854775807 := by
    have hok := ok_of (p := ⟨ns, es, mn, F, ls, sd⟩) (show pbErr ⟨ns, es, mn, F, ls, sd⟩ = 0 from by have := HER.out; unfold alErr at this; split at this; exact this; exact Decidable.byContradiction (by assumption))
    have h9 := alongF_len ⟨ns, es, mn, F, ls, sd⟩ 8192 1000 (fun i => by
      by_cases hi : i < ls.length
      · exact (hok.fl i hi).1
      · simp [gf, hi]) (by have := HS.out.1; show sd.length ≤ 1000; omega) path (joinF (seedF sd mn) []) (by have h8 := joinF_len (seedF sd mn) []; have h7 := seedF_len sd mn; have := HS.out.1; simp only [List.length_nil] at h8; omega)
    have h8 := HI2.out.1
    change (alongF ⟨ns, es, mn, F, ls, sd⟩ path).length ≤ 8192 + 1000 at h9
    omega
  clear hi3
  go_wp2_with fail
  refine (samef_any Q Q' m c c' _ _ HI23.out HI3.out hm9).mono ?_
  rintro e w4 ⟨rfl, hb4⟩
  have hkw4 : Kept [] w w4 := hkw3.call hb4
  go_wp2_with fail
  refine (knows31_any _).mono ?_
  rintro e w5 ⟨rfl, hb5⟩
  go_wp2_with fail
  go_ret
  exact ⟨rfl, (hkw4.call hb5).toBelow⟩

set_option maxRecDepth 100000 in
set_option maxHeartbeats 4000000 in
theorem expCheck_any (A1 A2 A3 A4 A5 A6 : Option Addr) (n1 c1 n2 c2 n3 c3 n4 c4 n5 c5 n6 c6 : Nat) (mn F : Int) (ns : List Sp.Nd) (es : List Sp.Ed) (ls : List (List Pr)) (sd : List Sd) (path fs : List Int) (w : World) (hg : Gr w A1 n1 A2 n2 ns es) (hf : Flw w A3 n3 ls) (hs : Sds w A4 n4 sd) (hp : Ints w A5 n5 path) (hq : Ints w A6 n6 fs) (hc4 : n4 ≤ c4) (hn6 : n6 ≤ 9223372036854775807) :
    Calls Try.prog 11 #[.agg #[.slice A1 n1 c1, .slice A2 n2 c2, .int .i64 mn, .int .i64 F, .slice A3 n3 c3, .slice A4 n4 c4], .agg #[.slice A5 n5 c5, .slice A6 n6 c6]] w fun e w' => e = .returned (.bool true) ∧ Below w.heap.size w w' := by
  have HG := Lib.hid hg
  have HF := Lib.hid hf
  have HS := Lib.hid hs
  have HP := Lib.hid hp
  have HQ := Lib.hid hq
  clear hg hf hs hp hq
  go_enter Try.func11, Try.ntmps11
  go_upto_region 1 with fail
  refine wp_named (fun W => ∃ b0 b1, w.heap.size = b0 ∧ w.heap.size + 1 = b1 ∧ Blk W b0 [.slice A1 n1 c1, .slice A2 n2 c2, .int .i64 mn, .int .i64 F, .slice A3 n3 c3, .slice A4 n4 c4] ∧ Blk W b1 [.slice A5 n5 c5, .slice A6 n6 c6] ∧ Below w.heap.size w W) ⟨_, _, rfl, rfl, ?_, ?_, ?_⟩ ?_
  · exact (Blk.new _ _ _ _ (by first | rfl | simp)).alloc _
  · exact Blk.new _ _ _ _ (by first | rfl | simp)
  · go_grown
  rintro W ⟨b0, b1, e0, e1, B0, B1, hB⟩
  rw [e1, e0]
  have G0 : w.heap.size ≤ b0 := by omega
  have n01 : b0 ≠ b1 := by omega
  have G1 : w.heap.size ≤ b1 := by omega
  have n10 : b1 ≠ b0 := by omega
  clear e0 e1
  have ⟨L0, C0, F0⟩ := B0
  have ⟨L1, C1, F1⟩ := B1
  have hkW : Kept [] w W := (Kept.refl _ _).call hB
  go_wp2_with fail
  refine (small31_any A1 A2 A3 A4 n1 c1 n2 c2 n3 c3 n4 c4 mn F ls _ (HF.out.later hB)).mono ?_
  rintro e w1 ⟨⟨s, rfl, hsm⟩, hb1⟩
  have hk1 : Kept [] W w1 := (Kept.refl _ _).call hb1
  have hkw1 : Kept [] w w1 := keptTrans hkW hk1
  have ⟨L1, C1, F1⟩ := hk1.blk (by simp) B0
  have ⟨L1', C1', F1'⟩ := hk1.blk (by simp) B1
  clear C0 F0
  cases s with
  | false =>
    go_wp2_with fail
    go_ret
    exact ⟨rfl, hkw1.toBelow⟩
  | true =>
  have hsz := hsm rfl
  clear hsm
  by_cases t5 : 40 < n5
  · have d5 : decide ((40 : Int) < n5) = true := by simp; omega
    go_wp2_with fail
    go_ret
    exact ⟨rfl, hkw1.toBelow⟩
  have d5 : decide ((40 : Int) < n5) = false := by simp; omega
  obtain ⟨er, her⟩ : ∃ er, trErr ⟨ns, es, mn, F, ls, sd⟩ path fs = er := ⟨_, rfl⟩
  have HER := Lib.hid her
  clear her
  go_upto_region 3 with fail
  refine wp_region_E 10 (fun w' => SX0 w1 w') (by kernel_rfl) (by (repeat' first | (with_reducible assumption) | (with_reducible exact SX0.init _) | (with_reducible exact SX0.refl _) | (with_reducible refine SX0.alloc ?_ _) | (with_reducible refine SX0.call ?_ (by assumption)) | (with_reducible refine SX0.set ?_ _ _ _ ?_) | (with_reducible refine SX0.drew ?_) | (simp; done) | omega | (simp; omega))) (fun hHeld => ?_)
  refine WE_take 0 (v := ?_) rfl (by kernel_rfl) (fun _ _ _ h => h) (Or.inl ⟨by rfl, ?_⟩) (by assumption) ?_; rotate_left; (· intro w9 hSw; (try dsimp only at hSw); go_simp; try with_reducible rfl); (try simp only [Act.put, List.setIfInBounds_toArray, List.set_cons_zero, List.set_cons_succ])
  refine WE_take 1 (v := ?_) rfl (by kernel_rfl) (fun _ _ _ h => h) (Or.inl ⟨by rfl, ?_⟩) (by assumption) ?_; rotate_left; (· intro w9 hSw; (try dsimp only at hSw); go_simp; try with_reducible rfl); (try simp only [Act.put, List.setIfInBounds_toArray, List.set_cons_zero, List.set_cons_succ])
  refine WE_take 3 (v := ?_) rfl (by kernel_rfl) (fun _ _ _ h => h) (Or.inl ⟨by rfl, ?_⟩) (by assumption) ?_; rotate_left; (· intro w9 hSw; (try dsimp only at hSw); go_simp; try with_reducible rfl); (try simp only [Act.put, List.setIfInBounds_toArray, List.set_cons_zero, List.set_cons_succ])
  refine WE_take 4 (v := ?_) rfl (by kernel_rfl) (fun _ _ _ h => h) (Or.inl ⟨by rfl, ?_⟩) (by assumption) ?_; rotate_left; (· intro w9 hSw; (try dsimp only at hSw); go_simp; try with_reducible rfl); (try simp only [Act.put, List.setIfInBounds_toArray, List.set_cons_zero, List.set_cons_succ])
  refine WE_step 2 rfl (by kernel_rfl) (fun K hK => ?_)
  go_simp
  (first | (go_at_call 44; refine (ptrail_any A1 A2 A3 A4 A5 A6 n1 c1 n2 c2 n3 c3 n4 c4 n5 c5 n6 c6 mn F ns es ls sd path fs _ (HG.out.kept (keptTrans hkw1 hHeld.1)) (HF.out.later (keptTrans hkw1 hHeld.1).toBelow) (HS.out.later (keptTrans hkw1 hHeld.1).toBelow) (HP.out.later (keptTrans hkw1 hHeld.1).toBelow) (HQ.out.later (keptTrans hkw1 hHeld.1).toBelow) (by omega) hc4 (by omega) hn6 er HER.out).mono ?_; rintro e w2 ⟨rfl, hb2⟩) | (go_at_call 45; refine (rtrail_any A1 A2 A3 A4 A5 A6 n1 c1 n2 c2 n3 c3 n4 c4 n5 c5 n6 c6 mn F ns es ls sd path fs _ (HG.out.kept (keptTrans hkw1 hHeld.1)) (HF.out.later (keptTrans hkw1 hHeld.1).toBelow) (HS.out.later (keptTrans hkw1 hHeld.1).toBelow) (HP.out.later (keptTrans hkw1 hHeld.1).toBelow) (HQ.out.later (keptTrans hkw1 hHeld.1).toBelow) (by omega) (by omega) hn6 er HER.out).mono ?_; rintro e w3 ⟨rfl, hb3⟩) | (go_at_call 43; refine (knows31_any _).mono ?_; rintro e w4 ⟨rfl, hb4⟩))
  (try go_wp2_with fail)
  refine hK.out _ _ ?_ (fun hHeld => ?_)
  · (repeat' first | (with_reducible assumption) | (with_reducible exact SX0.init _) | (with_reducible exact SX0.refl _) | (with_reducible refine SX0.alloc ?_ _) | (with_reducible refine SX0.call ?_ (by assumption)) | (with_reducible refine SX0.set ?_ _ _ _ ?_) | (with_reducible refine SX0.drew ?_) | (simp; done) | omega | (simp; omega))
  clear hK K
  try simp only [Act.put, List.setIfInBounds_toArray, List.set_cons_zero, List.set_cons_succ]
  refine WE_step 5 rfl (by kernel_rfl) (fun K hK => ?_)
  go_simp
  (first | (go_at_call 44; refine (ptrail_any A1 A2 A3 A4 A5 A6 n1 c1 n2 c2 n3 c3 n4 c4 n5 c5 n6 c6 mn F ns es ls sd path fs _ (HG.out.kept (keptTrans hkw1 hHeld.1)) (HF.out.later (keptTrans hkw1 hHeld.1).toBelow) (HS.out.later (keptTrans hkw1 hHeld.1).toBelow) (HP.out.later (keptTrans hkw1 hHeld.1).toBelow) (HQ.out.later (keptTrans hkw1 hHeld.1).toBelow) (by omega) hc4 (by omega) hn6 er HER.out).mono ?_; rintro e w2 ⟨rfl, hb2⟩) | (go_at_call 45; refine (rtrail_any A1 A2 A3 A4 A5 A6 n1 c1 n2 c2 n3 c3 n4 c4 n5 c5 n6 c6 mn F ns es ls sd path fs _ (HG.out.kept (keptTrans hkw1 hHeld.1)) (HF.out.later (keptTrans hkw1 hHeld.1).toBelow) (HS.out.later (keptTrans hkw1 hHeld.1).toBelow) (HP.out.later (keptTrans hkw1 hHeld.1).toBelow) (HQ.out.later (keptTrans hkw1 hHeld.1).toBelow) (by omega) (by omega) hn6 er HER.out).mono ?_; rintro e w3 ⟨rfl, hb3⟩) | (go_at_call 43; refine (knows31_any _).mono ?_; rintro e w4 ⟨rfl, hb4⟩))
  (try go_wp2_with fail)
  refine hK.out _ _ ?_ (fun hHeld => ?_)
  · (repeat' first | (with_reducible assumption) | (with_reducible exact SX0.init _) | (with_reducible exact SX0.refl _) | (with_reducible refine SX0.alloc ?_ _) | (with_reducible refine SX0.call ?_ (by assumption)) | (with_reducible refine SX0.set ?_ _ _ _ ?_) | (with_reducible refine SX0.drew ?_) | (simp; done) | omega | (simp; omega))
  clear hK K
  try simp only [Act.put, List.setIfInBounds_toArray, List.set_cons_zero, List.set_cons_succ]
  refine WE_take 6 (v := ?_) rfl (by kernel_rfl) (fun _ _ _ h => h) (Or.inl ⟨by rfl, ?_⟩) (by assumption) ?_; rotate_left; (· intro w9 hSw; (try dsimp only at hSw); go_simp; try with_reducible rfl); (try simp only [Act.put, List.setIfInBounds_toArray, List.set_cons_zero, List.set_cons_succ])
  refine WE_take 7 (v := ?_) rfl (by kernel_rfl) (fun _ _ _ h => h) (Or.inl ⟨by rfl, ?_⟩) (by assumption) ?_; rotate_left; (· intro w9 hSw; (try dsimp only at hSw); go_simp; try with_reducible rfl); (try simp only [Act.put, List.setIfInBounds_toArray, List.set_cons_zero, List.set_cons_succ])
  refine WE_step 8 rfl (by kernel_rfl) (fun K hK => ?_)
  go_simp
  (first | (go_at_call 44; refine (ptrail_any A1 A2 A3 A4 A5 A6 n1 c1 n2 c2 n3 c3 n4 c4 n5 c5 n6 c6 mn F ns es ls sd path fs _ (HG.out.kept (keptTrans hkw1 hHeld.1)) (HF.out.later (keptTrans hkw1 hHeld.1).toBelow) (HS.out.later (keptTrans hkw1 hHeld.1).toBelow) (HP.out.later (keptTrans hkw1 hHeld.1).toBelow) (HQ.out.later (keptTrans hkw1 hHeld.1).toBelow) (by omega) hc4 (by omega) hn6 er HER.out).mono ?_; rintro e w2 ⟨rfl, hb2⟩) | (go_at_call 45; refine (rtrail_any A1 A2 A3 A4 A5 A6 n1 c1 n2 c2 n3 c3 n4 c4 n5 c5 n6 c6 mn F ns es ls sd path fs _ (HG.out.kept (keptTrans hkw1 hHeld.1)) (HF.out.later (keptTrans hkw1 hHeld.1).toBelow) (HS.out.later (keptTrans hkw1 hHeld.1).toBelow) (HP.out.later (keptTrans hkw1 hHeld.1).toBelow) (HQ.out.later (keptTrans hkw1 hHeld.1).toBelow) (by omega) (by omega) hn6 er HER.out).mono ?_; rintro e w3 ⟨rfl, hb3⟩) | (go_at_call 43; refine (knows31_any _).mono ?_; rintro e w4 ⟨rfl, hb4⟩))
  (try go_wp2_with fail)
  refine hK.out _ _ ?_ (fun hHeld => ?_)
  · (repeat' first | (with_reducible assumption) | (with_reducible exact SX0.init _) | (with_reducible exact SX0.refl _) | (with_reducible refine SX0.alloc ?_ _) | (with_reducible refine SX0.call ?_ (by assumption)) | (with_reducible refine SX0.set ?_ _ _ _ ?_) | (with_reducible refine SX0.drew ?_) | (simp; done) | omega | (simp; omega))
  clear hK K
  try simp only [Act.put, List.setIfInBounds_toArray, List.set_cons_zero, List.set_cons_succ]
  refine WE_take 9 (v := ?_) rfl (by kernel_rfl) (fun _ _ _ h => h) (Or.inl ⟨by rfl, ?_⟩) (by assumption) ?_; rotate_left; (· intro w9 hSw; (try dsimp only at hSw); go_simp; try with_reducible rfl); (try simp only [Act.put, List.setIfInBounds_toArray, List.set_cons_zero, List.set_cons_succ])
  refine WE_last rfl (by kernel_rfl) (fun K hK => ?_)
  go_simp
  refine hK.out _ _ ?_
  clear hK K
  have hk4 : Kept [] w w4 := keptTrans hkw1 hHeld.1
  go_wp2_with fail
  go_ret
  exact ⟨rfl, hk4.toBelow⟩
end Go.Proofs.Ytffkikhknabddaa
