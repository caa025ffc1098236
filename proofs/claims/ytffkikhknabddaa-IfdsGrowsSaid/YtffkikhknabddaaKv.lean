/- The contracts of the reference's Solve and Same, and of small; the walk of the law IfdsSolve. -/
import Derived.Test.YtffkikhknabddaaKt
import Derived.Test.YtffkikhknabddaaKu
import Derived.Test.YtffkikhknabddaaKf
import Derived.Test.YtffkikhknabddaaZk
namespace Go.Df
open Go.RowKit
namespace If
open Classical in
theorem solF_tab {p : Pb} (ho : Ok p) {F : Nat} (hF : p.F.toNat = F) {T : Nat → Nat → Nat → Bool} (h : ∀ n a d, T n a d = true ↔ PE p a n d) (x : Nat) : tabL F T x F = solF p x := by
  unfold tabL solF
  rw [hF]
  congr 1
  refine List.filter_congr fun y _ => ?_
  have e : anyT F T x y = decide (∃ a, PE p a x y) := by
    rw [Bool.eq_iff_iff, decide_eq_true_iff]
    unfold anyT
    rw [List.any_eq_true]
    constructor
    · rintro ⟨a, _, ha⟩
      exact ⟨a, (h _ _ _).1 ha⟩
    · rintro ⟨a, ha⟩
      have h1 := (ha.rng ho).2.1
      exact ⟨a, List.mem_range.2 (by omega), (h _ _ _).2 ha⟩
  rw [e]
end If
end Go.Df
namespace Go.Proofs.Ytffkikhknabddaa
open Go.RowKit Go.Df Go.Df.If
attribute [local go_sem ↓] Go.wp_at_zero Go.wp_at_succ

set_option maxRecDepth 100000 in
set_option maxHeartbeats 4000000 in
theorem rsamef_eq (A B : Option Addr) (n a b : Nat) (l : List Int) (w : World) (hA : Ints w A n l) (hB : Ints w B n l) (hn : n ≤ 9223372036854775807) :
    Calls Try.prog 42 #[.slice A n a, .slice B n b] w fun e w' => e = .returned (.bool true) ∧ Below w.heap.size w w' := by
  have HA := Lib.hid hA
  have HB := Lib.hid hB
  clear hA hB
  go_enter Try.func42, Try.ntmps42
  go_wp2_with fail
  go_loopw [5] (fun s5 wr => ∃ i : Nat, i ≤ n ∧ s5 = .int .i64 i ∧ Kept [] w wr) (fun s5 _ => n - (intOf s5).toNat)
  case atStart => exact ⟨0, Nat.zero_le _, rfl, Kept.refl _ _⟩
  case round =>
  obtain ⟨i, hi, rfl, hkr⟩ := hrel
  by_cases hlt : i < n
  · obtain ⟨b1, o1, rfl, hl1, hc1⟩ := HA.out.2 (by omega)
    obtain ⟨b2, o2, rfl, hl2, hc2⟩ := HB.out.2 (by omega)
    have r1 := (hkr.cell b1 _ hl1 (by simp)).trans (hc1 i hlt)
    have r2 := (hkr.cell b2 _ hl2 (by simp)).trans (hc2 i hlt)
    obtain ⟨x, hx⟩ : ∃ x, gi l i = x := ⟨_, rfl⟩
    rw [hx] at r1 r2
    have l1 : b1 < wr.heap.size := Nat.lt_of_lt_of_le hl1 hkr.size
    have l2 : b2 < wr.heap.size := Nat.lt_of_lt_of_le hl2 hkr.size
    have hi9 : (i : Int) < (n : Int) := by omega
    clear hc1 hc2 hx
    go_upto_region 6 with fail
    go_quiet (fail)
    go_wp2_with fail
    exact ⟨⟨i + 1, by omega, by go_num, hkr.drewN _⟩, by simp [intOf]; omega⟩
  · obtain rfl : i = n := by omega
    go_wp2_with fail
    go_ret
    exact ⟨rfl, hkr.toBelow⟩

set_option maxRecDepth 100000 in
set_option maxHeartbeats 4000000 in
theorem rsame_eq (A1 A2 B1 B2 : Option Addr) (n m a1 a2 d1 d2 : Nat) (re : List Bool) (fs : List (List Int)) (w : World) (hA1 : Bls w A1 n re) (hB1 : Bls w B1 n re) (hA2 : IntsR w A2 m fs) (hB2 : IntsR w B2 m fs) (hn : n ≤ 1000000) (hm : m ≤ 1000000) :
    Calls Try.prog 30 #[.agg #[.slice A1 n a1, .slice A2 m a2], .agg #[.slice B1 n d1, .slice B2 m d2]] w fun e w' => e = .returned (.bool true) ∧ Below w.heap.size w w' := by
  have HA1 := Lib.hid hA1
  have HB1 := Lib.hid hB1
  have HA2 := Lib.hid hA2
  have HB2 := Lib.hid hB2
  clear hA1 hB1 hA2 hB2
  go_enter Try.func30, Try.ntmps30
  go_upto_region 1 with fail
  refine wp_named (fun W => ∃ b0 b1, w.heap.size = b0 ∧ w.heap.size + 1 = b1 ∧ Blk W b0 [.slice A1 n a1, .slice A2 m a2] ∧ Blk W b1 [.slice B1 n d1, .slice B2 m d2] ∧ Below w.heap.size w W) ⟨_, _, rfl, rfl, ?_, ?_, ?_⟩ ?_
  · exact (Blk.new _ _ _ _ (by first | rfl | simp)).alloc _
  · exact Blk.new _ _ _ _ (by first | rfl | simp)
  · go_grown
  rintro W ⟨b0, b1, e0, e1, B0, B1, hB⟩
  rw [e1, e0]
  have G0 : w.heap.size ≤ b0 := by omega
  have n01 : b0 ≠ b1 := by omega
  have G1 : w.heap.size ≤ b1 := by omega
  have n10 : b1 ≠ b0 := by omega
  clear e0 e1
  have ⟨L0, C0, F0⟩ := B0
  have ⟨L1, C1, F1⟩ := B1
  go_wp2_with fail
  go_loopw [5] (fun s5 wr => ∃ i : Nat, i ≤ n ∧ s5 = .int .i64 i ∧ Kept [] W wr) (fun s5 _ => n - (intOf s5).toNat)
  case atStart => exact ⟨0, Nat.zero_le _, rfl, Kept.refl _ _⟩
  case round =>
  clear C0 F0 C1 F1
  obtain ⟨i, hi, rfl, hkr⟩ := hrel
  have ⟨L0r, C0r, F0r⟩ := hkr.blk (by simp) B0
  have ⟨L1r, C1r, F1r⟩ := hkr.blk (by simp) B1
  have hBr : Below w.heap.size w wr := hkr.below hB hB.size (by simp)
  by_cases hlt : i < n
  · obtain ⟨q1, o1, rfl, hl1, hc1⟩ := (HA1.out.later hBr).2 (by omega)
    obtain ⟨q2, o2, rfl, hl2, hc2⟩ := (HB1.out.later hBr).2 (by omega)
    have r1 := hc1 i hlt
    have r2 := hc2 i hlt
    obtain ⟨x, hx⟩ : ∃ x, gbl re i = x := ⟨_, rfl⟩
    rw [hx] at r1 r2
    have hi9 : (i : Int) < (n : Int) := by omega
    clear hc1 hc2 hx
    go_upto_region 6 with fail
    go_quiet (fail)
    cases x <;> (go_wp2_with fail; exact ⟨⟨i + 1, by omega, by go_num, hkr.drewN _⟩, by simp [intOf]; omega⟩)
  · obtain rfl : i = n := by omega
    go_wp2_with fail
    go_loopw [6] (fun s6 wz => ∃ q : Nat, q ≤ m ∧ s6 = .int .i64 q ∧ Kept [] W wz) (fun s6 _ => m - (intOf s6).toNat)
    case atStart => exact ⟨0, Nat.zero_le _, rfl, hkr⟩
    case round =>
    rename World => wz
    clear C0r F0r C1r F1r
    obtain ⟨q, hq, rfl, hkz⟩ := hrel
    have ⟨L0z, C0z, F0z⟩ := hkz.blk (by simp) B0
    have ⟨L1z, C1z, F1z⟩ := hkz.blk (by simp) B1
    have hBz : Below w.heap.size w wz := hkz.below hB hB.size (by simp)
    by_cases hltq : q < m
    · obtain ⟨q1, o1, rfl, hl1, hc1⟩ := (HA2.out.later hBz).2 (by omega)
      obtain ⟨q2, o2, rfl, hl2, hc2⟩ := (HB2.out.later hBz).2 (by omega)
      obtain ⟨Ai, ni, ci, r1, i1, n1⟩ := hc1 q hltq
      obtain ⟨Bi, mi, di, r2, i2, n2⟩ := hc2 q hltq
      obtain rfl : ni = mi := by have := i1.1; have := i2.1; omega
      have I1 := Lib.hid i1
      have I2 := Lib.hid i2
      have hq9 : (q : Int) < (m : Int) := by omega
      clear hc1 hc2 i1 i2
      go_upto_region 11 with fail
      refine wp_region_E 11 (fun w' => SX0 wz w') (by kernel_rfl) (by (repeat' first | (with_reducible assumption) | (with_reducible exact SX0.init _) | (with_reducible exact SX0.refl _) | (with_reducible refine SX0.alloc ?_ _) | (with_reducible refine SX0.call ?_ (by assumption)) | (with_reducible refine SX0.set ?_ _ _ _ ?_) | (with_reducible refine SX0.drew ?_) | (simp; done) | omega | (simp; omega))) (fun hHeld => ?_)
      refine WE_take 0 (v := ?_) rfl (by kernel_rfl) (fun _ _ _ h => h) (Or.inl ⟨by rfl, ?_⟩) (by assumption) ?_; rotate_left; (· intro w9 hSw; (try dsimp only at hSw); go_simp; try with_reducible rfl); (try simp only [Act.put, List.setIfInBounds_toArray, List.set_cons_zero, List.set_cons_succ])
      refine WE_take 1 (v := ?_) rfl (by kernel_rfl) (fun _ _ _ h => h) (Or.inl ⟨by rfl, ?_⟩) (by assumption) ?_; rotate_left; (· intro w9 hSw; (try dsimp only at hSw); go_simp; try with_reducible rfl); (try simp only [Act.put, List.setIfInBounds_toArray, List.set_cons_zero, List.set_cons_succ])
      refine WE_take 2 (v := ?_) rfl (by kernel_rfl) (fun _ _ _ h => h) (Or.inl ⟨by rfl, ?_⟩) (by assumption) ?_; rotate_left; (· intro w9 hSw; (try dsimp only at hSw); go_simp; try with_reducible rfl); (try simp only [Act.put, List.setIfInBounds_toArray, List.set_cons_zero, List.set_cons_succ])
      refine WE_take 3 (v := ?_) rfl (by kernel_rfl) (fun _ _ _ h => h) (Or.inl ⟨by rfl, ?_⟩) (by assumption) ?_; rotate_left; (· intro w9 hSw; (try dsimp only at hSw); go_simp; try with_reducible rfl); (try simp only [Act.put, List.setIfInBounds_toArray, List.set_cons_zero, List.set_cons_succ])
      refine WE_take 4 (v := ?_) rfl (by kernel_rfl) (fun _ _ _ h => h) (Or.inl ⟨by rfl, ?_⟩) (by assumption) ?_; rotate_left; (· intro w9 hSw; (try dsimp only at hSw); go_simp; try with_reducible rfl); (try simp only [Act.put, List.setIfInBounds_toArray, List.set_cons_zero, List.set_cons_succ])
      refine WE_take 5 (v := ?_) rfl (by kernel_rfl) (fun _ _ _ h => h) (Or.inl ⟨by rfl, ?_⟩) (by assumption) ?_; rotate_left; (· intro w9 hSw; (try dsimp only at hSw); go_simp; try with_reducible rfl); (try simp only [Act.put, List.setIfInBounds_toArray, List.set_cons_zero, List.set_cons_succ])
      refine WE_take 6 (v := ?_) rfl (by kernel_rfl) (fun _ _ _ h => h) (Or.inl ⟨by rfl, ?_⟩) (by assumption) ?_; rotate_left; (· intro w9 hSw; (try dsimp only at hSw); go_simp; try with_reducible rfl); (try simp only [Act.put, List.setIfInBounds_toArray, List.set_cons_zero, List.set_cons_succ])
      refine WE_take 7 (v := ?_) rfl (by kernel_rfl) (fun _ _ _ h => h) (Or.inl ⟨by rfl, ?_⟩) (by assumption) ?_; rotate_left; (· intro w9 hSw; (try dsimp only at hSw); go_simp; try with_reducible rfl); (try simp only [Act.put, List.setIfInBounds_toArray, List.set_cons_zero, List.set_cons_succ])
      refine WE_take 8 (v := ?_) rfl (by kernel_rfl) (fun _ _ _ h => h) (Or.inl ⟨by rfl, ?_⟩) (by assumption) ?_; rotate_left; (· intro w9 hSw; (try dsimp only at hSw); go_simp; try with_reducible rfl); (try simp only [Act.put, List.setIfInBounds_toArray, List.set_cons_zero, List.set_cons_succ])
      refine WE_take 9 (v := ?_) rfl (by kernel_rfl) (fun _ _ _ h => h) (Or.inl ⟨by rfl, ?_⟩) (by assumption) ?_; rotate_left; (· intro w9 hSw; (try dsimp only at hSw); go_simp; try with_reducible rfl); (try simp only [Act.put, List.setIfInBounds_toArray, List.set_cons_zero, List.set_cons_succ])
      refine WE_step 10 rfl (by kernel_rfl) (fun K hK => ?_)
      go_simp
      (go_at_call 42; refine (rsamef_eq Ai Bi ni ci di _ _ (I1.out.later (Kept.refl [] _).drew.toBelow) (I2.out.later (Kept.refl [] _).drew.toBelow) n1).mono ?_; rintro e w5 ⟨rfl, hb5⟩; have HK5 := Lib.hid (((Kept.refl [] wz).drew).call hb5))
      (try go_wp2_with fail)
      refine hK.out _ _ ?_ (fun hHeld => ?_)
      · (repeat' first | (with_reducible assumption) | (with_reducible exact SX0.init _) | (with_reducible exact SX0.refl _) | (with_reducible refine SX0.alloc ?_ _) | (with_reducible refine SX0.call ?_ (by assumption)) | (with_reducible refine SX0.set ?_ _ _ _ ?_) | (with_reducible refine SX0.drew ?_) | (simp; done) | omega | (simp; omega))
      clear hK K
      try simp only [Act.put, List.setIfInBounds_toArray, List.set_cons_zero, List.set_cons_succ]
      refine WE_last rfl (by kernel_rfl) (fun K hK => ?_)
      go_simp
      refine hK.out _ _ ?_
      clear hK K
      go_wp2_with fail
      exact ⟨⟨q + 1, by omega, by go_num, hkz.next HK5.out (by simp)⟩, by simp [intOf]; omega⟩
    · obtain rfl : q = m := by omega
      go_wp2_with fail
      go_ret
      exact ⟨rfl, hBz⟩

set_option maxRecDepth 100000 in
set_option maxHeartbeats 4000000 in
theorem small_any (A1 A2 A3 A4 : Option Addr) (n1 c1 n2 c2 n3 c3 n4 c4 : Nat) (mn F : Int) (ls : List (List Pr)) (w : World) (hF : Flw w A3 n3 ls) :
    Calls Try.prog 27 #[.agg #[.slice A1 n1 c1, .slice A2 n2 c2, .int .i64 mn, .int .i64 F, .slice A3 n3 c3, .slice A4 n4 c4]] w fun e w' => (∃ b, e = .returned (.bool b) ∧ (b = true → n1 ≤ 40 ∧ n2 ≤ 80 ∧ F ≤ 8 ∧ n3 ≤ 80 ∧ n4 ≤ 20)) ∧ Below w.heap.size w w' := by
  have HF := Lib.hid hF
  clear hF
  by_cases t1 : 40 < n1
  · have d1 : decide ((40 : Int) < n1) = true := by simp; omega
    clear t1
    go_enter Try.func27, Try.ntmps27
    go_upto_region 1 with fail
    refine wp_named (fun W => ∃ b0, w.heap.size = b0 ∧ Blk W b0 [.slice A1 n1 c1, .slice A2 n2 c2, .int .i64 mn, .int .i64 F, .slice A3 n3 c3, .slice A4 n4 c4] ∧ Below w.heap.size w W) ⟨_, rfl, ?_, ?_⟩ ?_
    · exact Blk.new _ _ _ _ (by first | rfl | simp)
    · go_grown
    rintro W ⟨b0, e0, B0, hB⟩
    rw [e0]
    have G0 : w.heap.size ≤ b0 := by omega
    clear e0
    have ⟨L0, C0, F0⟩ := B0
    go_wp2_with fail
    go_ret
    exact ⟨⟨false, rfl, fun h => by cases h⟩, hB⟩
  have d1 : decide ((40 : Int) < n1) = false := by simp; omega
  by_cases t2 : 80 < n2
  · have d2 : decide ((80 : Int) < n2) = true := by simp; omega
    clear t1 t2
    go_enter Try.func27, Try.ntmps27
    go_upto_region 1 with fail
    refine wp_named (fun W => ∃ b0, w.heap.size = b0 ∧ Blk W b0 [.slice A1 n1 c1, .slice A2 n2 c2, .int .i64 mn, .int .i64 F, .slice A3 n3 c3, .slice A4 n4 c4] ∧ Below w.heap.size w W) ⟨_, rfl, ?_, ?_⟩ ?_
    · exact Blk.new _ _ _ _ (by first | rfl | simp)
    · go_grown
    rintro W ⟨b0, e0, B0, hB⟩
    rw [e0]
    have G0 : w.heap.size ≤ b0 := by omega
    clear e0
    have ⟨L0, C0, F0⟩ := B0
    go_wp2_with fail
    go_ret
    exact ⟨⟨false, rfl, fun h => by cases h⟩, hB⟩
  have d2 : decide ((80 : Int) < n2) = false := by simp; omega
  by_cases t3 : 8 < F
  · have d3 : decide ((8 : Int) < F) = true := by simpa using t3
    clear t1 t2 t3
    go_enter Try.func27, Try.ntmps27
    go_upto_region 1 with fail
    refine wp_named (fun W => ∃ b0, w.heap.size = b0 ∧ Blk W b0 [.slice A1 n1 c1, .slice A2 n2 c2, .int .i64 mn, .int .i64 F, .slice A3 n3 c3, .slice A4 n4 c4] ∧ Below w.heap.size w W) ⟨_, rfl, ?_, ?_⟩ ?_
    · exact Blk.new _ _ _ _ (by first | rfl | simp)
    · go_grown
    rintro W ⟨b0, e0, B0, hB⟩
    rw [e0]
    have G0 : w.heap.size ≤ b0 := by omega
    clear e0
    have ⟨L0, C0, F0⟩ := B0
    go_wp2_with fail
    go_ret
    exact ⟨⟨false, rfl, fun h => by cases h⟩, hB⟩
  have d3 : decide ((8 : Int) < F) = false := by simpa using t3
  by_cases t4 : 80 < n3
  · have d4 : decide ((80 : Int) < n3) = true := by simp; omega
    clear t1 t2 t3 t4
    go_enter Try.func27, Try.ntmps27
    go_upto_region 1 with fail
    refine wp_named (fun W => ∃ b0, w.heap.size = b0 ∧ Blk W b0 [.slice A1 n1 c1, .slice A2 n2 c2, .int .i64 mn, .int .i64 F, .slice A3 n3 c3, .slice A4 n4 c4] ∧ Below w.heap.size w W) ⟨_, rfl, ?_, ?_⟩ ?_
    · exact Blk.new _ _ _ _ (by first | rfl | simp)
    · go_grown
    rintro W ⟨b0, e0, B0, hB⟩
    rw [e0]
    have G0 : w.heap.size ≤ b0 := by omega
    clear e0
    have ⟨L0, C0, F0⟩ := B0
    go_wp2_with fail
    go_ret
    exact ⟨⟨false, rfl, fun h => by cases h⟩, hB⟩
  have d4 : decide ((80 : Int) < n3) = false := by simp; omega
  by_cases t5 : 20 < n4
  · have d5 : decide ((20 : Int) < n4) = true := by simp; omega
    clear t1 t2 t3 t4 t5
    go_enter Try.func27, Try.ntmps27
    go_upto_region 1 with fail
    refine wp_named (fun W => ∃ b0, w.heap.size = b0 ∧ Blk W b0 [.slice A1 n1 c1, .slice A2 n2 c2, .int .i64 mn, .int .i64 F, .slice A3 n3 c3, .slice A4 n4 c4] ∧ Below w.heap.size w W) ⟨_, rfl, ?_, ?_⟩ ?_
    · exact Blk.new _ _ _ _ (by first | rfl | simp)
    · go_grown
    rintro W ⟨b0, e0, B0, hB⟩
    rw [e0]
    have G0 : w.heap.size ≤ b0 := by omega
    clear e0
    have ⟨L0, C0, F0⟩ := B0
    go_wp2_with fail
    go_ret
    exact ⟨⟨false, rfl, fun h => by cases h⟩, hB⟩
  have d5 : decide ((20 : Int) < n4) = false := by simp; omega
  have HOK : Hid (n1 ≤ 40 ∧ n2 ≤ 80 ∧ F ≤ 8 ∧ n3 ≤ 80 ∧ n4 ≤ 20) := by show _ ∧ _; omega
  have hn3 : n3 ≤ 80 := by omega
  clear t1 t2 t3 t4 t5
  go_enter Try.func27, Try.ntmps27
  go_upto_region 1 with fail
  refine wp_named (fun W => ∃ b0, w.heap.size = b0 ∧ Blk W b0 [.slice A1 n1 c1, .slice A2 n2 c2, .int .i64 mn, .int .i64 F, .slice A3 n3 c3, .slice A4 n4 c4] ∧ Below w.heap.size w W) ⟨_, rfl, ?_, ?_⟩ ?_
  · exact Blk.new _ _ _ _ (by first | rfl | simp)
  · go_grown
  rintro W ⟨b0, e0, B0, hB⟩
  rw [e0]
  have G0 : w.heap.size ≤ b0 := by omega
  clear e0
  have ⟨L0, C0, F0⟩ := B0
  go_wp2_with fail
  go_loopw [3] (fun s3 wr => ∃ i : Nat, i ≤ n3 ∧ s3 = .int .i64 i ∧ Kept [] W wr) (fun s3 _ => n3 - (intOf s3).toNat)
  case atStart => exact ⟨0, Nat.zero_le _, rfl, Kept.refl _ _⟩
  case round =>
  clear C0 F0
  obtain ⟨i, hi, rfl, hkr⟩ := hrel
  have ⟨L0r, C0r, F0r⟩ := hkr.blk (by simp) B0
  have hBr : Below w.heap.size w wr := hkr.below hB hB.size (by simp)
  by_cases hlt : i < n3
  · obtain ⟨q1, o1, rfl, hl1, hc1⟩ := (HF.out.later hBr).2 (by omega)
    obtain ⟨Ai, ni, ci, r1, -, -⟩ := hc1 i hlt
    have hi9 : (i : Int) < (n3 : Int) := by omega
    clear hc1
    by_cases t6 : 40 < ni
    · have d6 : decide ((40 : Int) < ni) = true := by simp; omega
      clear t6
      go_wp2_with fail
      go_ret
      exact ⟨⟨false, rfl, fun h => by cases h⟩, hBr⟩
    · have d6 : decide ((40 : Int) < ni) = false := by simp; omega
      clear t6
      go_wp2_with fail
      exact ⟨⟨i + 1, by omega, by go_num, hkr⟩, by simp [intOf]; omega⟩
  · obtain rfl : i = n3 := by omega
    go_wp2_with fail
    go_ret
    exact ⟨⟨true, rfl, fun _ => HOK.out⟩, hBr⟩

set_option maxRecDepth 100000 in
set_option maxHeartbeats 4000000 in
theorem rsolve_bad {p : Pb} (A1 A2 A3 A4 : Option Addr) (n1 c1 n2 c2 n3 c3 n4 c4 : Nat) (w : World) (hG : Gr w A1 n1 A2 n2 p.ns p.es) (hF : Flw w A3 n3 p.fl) (hS : Sds w A4 n4 p.sd) (hn4 : n4 ≤ 9223372036854775807) (pe : Int) (hpe : pbErr p = pe) (h0 : pe ≠ 0) :
    Calls Try.prog 29 #[.agg #[.slice A1 n1 c1, .slice A2 n2 c2, .int .i64 p.mn, .int .i64 p.F, .slice A3 n3 c3, .slice A4 n4 c4]] w fun e w' => e = .returned (.tuple #[.agg #[.slice none 0 0, .slice none 0 0], .int .i64 pe]) ∧ Below w.heap.size w w' := by
  have HG := Lib.hid hG
  have HF := Lib.hid hF
  have HS := Lib.hid hS
  have HPE : Hid (pbErr ⟨p.ns, p.es, p.mn, p.F, p.fl, p.sd⟩ = pe) := hpe
  have h0' : (pe != 0) = true := by simpa using h0
  clear hG hF hS hpe h0
  go_enter Try.func29, Try.ntmps29
  go_upto_region 1 with fail
  refine wp_named (fun W => ∃ b0 b1, w.heap.size = b0 ∧ w.heap.size + 1 = b1 ∧ Blk W b0 [.slice A1 n1 c1, .slice A2 n2 c2, .int .i64 p.mn, .int .i64 p.F, .slice A3 n3 c3, .slice A4 n4 c4] ∧ Blk W b1 [.slice none 0 0, .slice none 0 0] ∧ Below w.heap.size w W) ⟨_, _, rfl, rfl, ?_, ?_, ?_⟩ ?_
  · exact (Blk.new _ _ _ _ (by first | rfl | simp)).alloc _
  · exact Blk.new _ _ _ _ (by first | rfl | simp)
  · go_grown
  rintro W ⟨b0, b1, e0, e1, B0, B1, hB⟩
  rw [e1, e0]
  have G0 : w.heap.size ≤ b0 := by omega
  have n01 : b0 ≠ b1 := by omega
  have G1 : w.heap.size ≤ b1 := by omega
  have n10 : b1 ≠ b0 := by omega
  clear e0 e1
  have ⟨L0, C0, F0⟩ := B0
  have ⟨L1, C1, F1⟩ := B1
  go_upto_region 2 with (go_at_call 25; refine (rifdsck_any A1 A2 A3 A4 n1 c1 n2 c2 n3 c3 n4 c4 p.mn p.F p.ns p.es p.fl p.sd _ (HG.out.nd.later hB) (HG.out.ed.later hB) (HF.out.later hB) (HS.out.later hB) hn4 HG.out.wn HG.out.we).mono ?_; rw [HPE.out]; rintro e w1 ⟨rfl, hb1⟩)
  have hk1 : Kept [] W w1 := (Kept.refl _ _).call hb1
  have B11 := hk1.blk (by simp) B1
  have ⟨L11, C11, F11⟩ := B11
  have hB1 := hk1.below hB hB.size (by simp)
  clear C1 F1
  go_wp2_with fail
  refine retNamedT (fun X => Blk X b1 [.slice none 0 0, .slice none 0 0] ∧ Kept [b1] w1 X) ⟨(B11.set 0 _).set 1 _, ((Kept.refl [b1] w1).set b1 0 _ (.inl (by simp))).set b1 1 _ (.inl (by simp))⟩ ?_
  rintro X ⟨BX, hkX⟩
  have ⟨LX, CX, FX⟩ := BX
  refine bodyPost_ret (by simp [results, Try.results29, go_sem, CX]; try rfl) rfl ?_
  exact ⟨rfl, hkX.below hB1 hB1.size (by simpa using G1)⟩

set_option maxRecDepth 100000 in
set_option maxHeartbeats 4000000 in
theorem rsolve_ok {p : Pb} (A1 A2 A3 A4 : Option Addr) (n1 c1 n2 c2 n3 c3 n4 c4 mN F : Nat) (w : World) (hG : Gr w A1 n1 A2 n2 p.ns p.es) (hP : PbW p n1 F mN A1 A2 A3 A4 n2 n3 n4 w) :
    Calls Try.prog 29 #[.agg #[.slice A1 n1 c1, .slice A2 n2 c2, .int .i64 mN, .int .i64 (F : Nat), .slice A3 n3 c3, .slice A4 n4 c4]] w fun e w' => ∃ B1 d1 B2 d2, e = .returned (.tuple #[.agg #[.slice B1 n1 d1, .slice B2 n1 d2], .int .i64 0]) ∧ Bls w' B1 n1 ((List.range n1).map (solR p)) ∧ IntsR w' B2 n1 ((List.range n1).map (solF p)) ∧ Below w.heap.size w w' := by
  have HG := Lib.hid hG
  have HP := Lib.hid hP
  have hn4 := hP.h4
  have hN8 := hP.N8
  have hF8 := hP.F8
  have hF1 := hP.F1
  have HPE : Hid (pbErr ⟨p.ns, p.es, mN, F, p.fl, p.sd⟩ = 0) := Lib.hid (by
    have h9 : pbErr ⟨p.ns, p.es, p.mn, p.F, p.fl, p.sd⟩ = 0 := pb_ok (p := p) hP.ok.sup (by have := hP.ok.f1; have := hP.ok.f2; omega) hP.ok.len (fun x hx => by
      have h1 := hP.ok.fl x hx
      have h2 := fl_end (l := gf p.fl x) hP.ok.f1 hP.ok.f2 h1.1 h1.2.1
      rw [h2, if_neg]
      rintro (h3 | h3)
      · have := h1.2.2.1; omega
      · exact h3 h1.2.2.2) hP.ok.sd
    rw [← hP.hm, ← hP.hF]
    exact h9)
  clear hG hP
  go_enter Try.func29, Try.ntmps29
  go_upto_region 1 with fail
  refine wp_named (fun W => ∃ b0 b1, w.heap.size = b0 ∧ w.heap.size + 1 = b1 ∧ Blk W b0 [.slice A1 n1 c1, .slice A2 n2 c2, .int .i64 mN, .int .i64 (F : Nat), .slice A3 n3 c3, .slice A4 n4 c4] ∧ Blk W b1 [.slice none 0 0, .slice none 0 0] ∧ Below w.heap.size w W) ⟨_, _, rfl, rfl, ?_, ?_, ?_⟩ ?_
  · exact (Blk.new _ _ _ _ (by first | rfl | simp)).alloc _
  · exact Blk.new _ _ _ _ (by first | rfl | simp)
  · go_grown
  rintro W ⟨b0, b1, e0, e1, B0, B1, hB⟩
  rw [e1, e0]
  have G0 : w.heap.size ≤ b0 := by omega
  have n01 : b0 ≠ b1 := by omega
  have G1 : w.heap.size ≤ b1 := by omega
  have n10 : b1 ≠ b0 := by omega
  clear e0 e1
  have ⟨L0, C0, F0⟩ := B0
  have ⟨L1, C1, F1⟩ := B1
  go_upto_region 2 with (go_at_call 25; refine (rifdsck_any A1 A2 A3 A4 n1 c1 n2 c2 n3 c3 n4 c4 mN F p.ns p.es p.fl p.sd _ (HG.out.nd.later hB) (HG.out.ed.later hB) (HP.out.fl.later hB) (HP.out.sd.later hB) (by omega) HG.out.wn HG.out.we).mono ?_; rw [HPE.out]; rintro e w1 ⟨rfl, hb1⟩)
  have hk1 : Kept [] W w1 := (Kept.refl _ _).call hb1
  have B01 := hk1.blk (by simp) B0
  have B11 := hk1.blk (by simp) B1
  have ⟨L01, C01, F01⟩ := B01
  have ⟨L11, C11, F11⟩ := B11
  have hB1 := hk1.below hB hB.size (by simp)
  clear C0 F0 C1 F1
  go_upto_region 4 with fail
  go_wp2_with (first
    | (go_at_call 77; refine (redges_any c1 c2 c3 c4 _ (HP.out.later hB1)).mono ?_; rintro e w2 ⟨X, bs, r, c, T, rfl, ht2, hpe2, hb2⟩; have T2 := Lib.hid ht2; have HT2 := Lib.hid hpe2; clear ht2 hpe2)
    | (go_at_call 76; refine (rsolof_any c _ T2.out hN8 hF1 hF8).mono ?_; rintro e w3 ⟨B1', d1, B2', d2, rfl, hr3, hb3⟩; have HR3 := Lib.hid hr3; have HK3 := Lib.hid (((Kept.refl [] w1).call hb2).call hb3); have ⟨L13, C13, F13⟩ := HK3.out.blk (by simp) B11; clear hr3))
  have B13 := HK3.out.blk (by simp) B11
  have hB3 : Below w.heap.size w w3 := HK3.out.below hB1 hB1.size (by simp)
  refine retNamedT (fun Y => Blk Y b1 [.slice B1' n1 d1, .slice B2' n1 d2] ∧ Kept [b1] w3 Y) ⟨(B13.set 0 _).set 1 _, ((Kept.refl [b1] w3).set b1 0 _ (.inl (by simp))).set b1 1 _ (.inl (by simp))⟩ ?_
  rintro Y ⟨BY, hkY⟩
  have ⟨LY, CY, FY⟩ := BY
  refine bodyPost_ret (by simp [results, Try.results29, go_sem, CY]; try rfl) rfl ?_
  have e1 : (List.range n1).map (fun x => T x 0 0) = (List.range n1).map (solR p) := List.map_congr_left fun x _ => solR_eq (HT2.out x 0 0)
  have e2 : (List.range n1).map (fun x => tabL F T x F) = (List.range n1).map (solF p) := List.map_congr_left fun x _ => solF_tab HP.out.ok HP.out.Fn HT2.out x
  rw [← e1, ← e2]
  obtain ⟨h1, h2⟩ := HR3.out Y [b1] hkY (fun x hx => by rw [List.mem_singleton] at hx; have h8 := hb2.size; omega)
  exact ⟨B1', d1, B2', d2, rfl, h1, h2, hkY.below hB3 hB3.size (by simpa using G1)⟩

set_option maxRecDepth 100000 in
set_option maxHeartbeats 4000000 in
theorem ifdsSolve_any {p : Pb} (A1 A2 A3 A4 : Option Addr) (n1 c1 n2 c2 n3 c3 n4 c4 : Nat) (w : World) (hG : Gr w A1 n1 A2 n2 p.ns p.es) (hF : Flw w A3 n3 p.fl) (hS : Sds w A4 n4 p.sd) (hn4 : n4 ≤ 9223372036854775807) :
    Calls Try.prog 6 #[.agg #[.slice A1 n1 c1, .slice A2 n2 c2, .int .i64 p.mn, .int .i64 p.F, .slice A3 n3 c3, .slice A4 n4 c4]] w fun e w' => e = .returned (.bool true) ∧ Below w.heap.size w w' := by
  have HG := Lib.hid hG
  have HF := Lib.hid hF
  have HS := Lib.hid hS
  obtain ⟨pe, hpe⟩ : ∃ pe, pbErr p = pe := ⟨_, rfl⟩
  have HPE := Lib.hid hpe
  clear hG hF hS hpe
  go_enter Try.func6, Try.ntmps6
  go_upto_region 1 with fail
  refine wp_named (fun W => ∃ b0, w.heap.size = b0 ∧ Blk W b0 [.slice A1 n1 c1, .slice A2 n2 c2, .int .i64 p.mn, .int .i64 p.F, .slice A3 n3 c3, .slice A4 n4 c4] ∧ Below w.heap.size w W) ⟨_, rfl, ?_, ?_⟩ ?_
  · exact Blk.new _ _ _ _ (by first | rfl | simp)
  · go_grown
  rintro W ⟨b0, e0, B0, hB⟩
  rw [e0]
  have G0 : w.heap.size ≤ b0 := by omega
  clear e0
  have ⟨L0, C0, F0⟩ := B0
  go_wp2_with fail
  refine (small_any A1 A2 A3 A4 n1 c1 n2 c2 n3 c3 n4 c4 p.mn p.F p.fl _ (HF.out.later hB)).mono ?_
  rintro e w1 ⟨⟨b, rfl, hsm⟩, hb1⟩
  have hk1 : Kept [] W w1 := (Kept.refl _ _).call hb1
  have B01 := hk1.blk (by simp) B0
  have ⟨L01, C01, F01⟩ := B01
  have hB1 : Below w.heap.size w w1 := hk1.below hB hB.size (by simp)
  clear C0 F0
  cases b with
  | false =>
    go_wp2_with fail
    go_ret
    exact ⟨rfl, hB1⟩
  | true =>
  have hs := hsm rfl
  have hn20 : n4 ≤ 1000000 := by omega
  have hn140 : n1 ≤ 1000000 := by omega
  clear hsm hs
  have HG1 := Lib.hid (HG.out.later hB1)
  have HF1 := Lib.hid (HF.out.later hB1)
  have HS1 := Lib.hid (HS.out.later hB1)
  by_cases h0 : pe = 0
  case neg =>
    have hz1 : (pe == pe) = true := by simp
    go_upto_region 4 with (go_at_call 28; refine (solve_bad A1 A2 A3 A4 n1 c1 n2 c2 n3 c3 n4 c4 _ HG1.out HF1.out HS1.out hn4 pe HPE.out h0).mono ?_; rintro e w2 ⟨rfl, hb2⟩)
    refine wp_named (fun V => ∃ g, w2.heap.size = g ∧ Blk V g [.slice none 0 0, .slice none 0 0] ∧ Kept [] w2 V) ⟨_, rfl, Blk.new _ _ _ _ rfl, (Kept.refl _ _).alloc _⟩ ?_
    rintro V ⟨g, eg, Bg, hkV⟩
    rw [eg]
    have hk1V : Kept [] w1 V := ((Kept.refl [] w1).call hb2).next hkV (by simp)
    have ⟨L0V, C0V, F0V⟩ := hk1V.blk (by simp) B01
    have hBV : Below w.heap.size w V := hk1V.below hB1 hB1.size (by simp)
    have HGV := Lib.hid (HG.out.later hBV)
    have HFV := Lib.hid (HF.out.later hBV)
    have HSV := Lib.hid (HS.out.later hBV)
    clear C01 F01 eg
    go_upto_region 5 with (go_at_call 29; refine (rsolve_bad A1 A2 A3 A4 n1 c1 n2 c2 n3 c3 n4 c4 _ HGV.out HFV.out HSV.out hn4 pe HPE.out h0).mono ?_; rintro e w3 ⟨rfl, hb3⟩)
    refine wp_named (fun V2 => ∃ g2, w3.heap.size = g2 ∧ Blk V2 g2 [.slice none 0 0, .slice none 0 0] ∧ Kept [] w3 V2) ⟨_, rfl, Blk.new _ _ _ _ rfl, (Kept.refl _ _).alloc _⟩ ?_
    rintro V2 ⟨g2, eg2, Bg2, hkV2⟩
    rw [eg2]
    have hkV3 : Kept [] V V2 := ((Kept.refl [] V).call hb3).next hkV2 (by simp)
    have ⟨LGV, CGV, FGV⟩ := hkV3.blk (by simp) Bg
    have ⟨LG2, CG2, FG2⟩ := Bg2
    have hBV2 : Below w.heap.size w V2 := hkV3.below hBV hBV.size (by simp)
    clear C0V F0V eg2 h0
    go_wp2_with (first
      | (go_at_call 30; refine (rsame_eq none none none none 0 0 0 0 0 0 [] [] _ ⟨rfl, fun h => absurd h (by omega)⟩ ⟨rfl, fun h => absurd h (by omega)⟩ ⟨rfl, fun h => absurd h (by omega)⟩ ⟨rfl, fun h => absurd h (by omega)⟩ (by omega) (by omega)).mono ?_; rintro e w4 ⟨rfl, hb4⟩)
      | (go_at_call 26; refine (knows_any _).mono ?_; rintro e w5 ⟨rfl, hb5⟩))
    go_ret
    exact ⟨rfl, (((Kept.refl [] V2).call hb4).call hb5).below hBV2 hBV2.size (by simp)⟩
  subst h0
  have ho := ok_of HPE.out
  have hm := main_in (sup_parts ho.sup).2.2.1
  obtain ⟨mN, hmN⟩ : ∃ mN : Nat, p.mn = mN := ⟨p.mn.toNat, by omega⟩
  obtain ⟨F, hFe⟩ : ∃ F : Nat, p.F = F := ⟨p.F.toNat, by have := ho.f1; omega⟩
  have HPB : Hid (PbW p n1 F mN A1 A2 A3 A4 n2 n3 n4 w) := Lib.hid ⟨HG.out.nd, HG.out.ed, HF.out, HS.out, hFe, hmN, ho, hn20⟩
  have HMF : Hid (p.mn = mN ∧ p.F = F) := Lib.hid ⟨hmN, hFe⟩
  clear ho hm hmN hFe
  go_upto_region 4 with (go_at_call 28; refine (solve_any A1 A2 A3 A4 n1 c1 n2 c2 n3 c3 n4 c4 _ HG1.out HF1.out HS1.out hn20 0 HPE.out rfl).mono ?_; rintro e w2 ⟨S1, S2, n, rfl, hn, hr2, hf2, hb2⟩; obtain rfl : n1 = n := HG.out.nd.1.symm.trans hn.symm; clear hn)
  have HR2 := Lib.hid hr2
  have HF2 := Lib.hid hf2
  clear hr2 hf2
  refine wp_named (fun V => ∃ g, w2.heap.size = g ∧ Blk V g [.slice S1 n1 n1, .slice S2 n1 n1] ∧ Kept [] w2 V) ⟨_, rfl, Blk.new _ _ _ _ rfl, (Kept.refl _ _).alloc _⟩ ?_
  rintro V ⟨g, eg, Bg, hkV⟩
  rw [eg]
  have hk1V : Kept [] w1 V := ((Kept.refl [] w1).call hb2).next hkV (by simp)
  have ⟨L0V, C0V, F0V⟩ := hk1V.blk (by simp) B01
  have hBV : Below w.heap.size w V := hk1V.below hB1 hB1.size (by simp)
  have HGV := Lib.hid (HG.out.later hBV)
  have HPV := Lib.hid (HPB.out.later hBV)
  clear C01 F01 eg
  go_upto_region 5 with (go_at_call 29; rw [HMF.out.1, HMF.out.2]; refine (rsolve_ok A1 A2 A3 A4 n1 c1 n2 c2 n3 c3 n4 c4 mN F _ HGV.out HPV.out).mono ?_; rintro e w3 ⟨T1, d1, T2, d2, rfl, hr3, hf3, hb3⟩; have HR3 := Lib.hid hr3; have HF3 := Lib.hid hf3; clear hr3 hf3)
  refine wp_named (fun V2 => ∃ g2, w3.heap.size = g2 ∧ Blk V2 g2 [.slice T1 n1 d1, .slice T2 n1 d2] ∧ Kept [] w3 V2) ⟨_, rfl, Blk.new _ _ _ _ rfl, (Kept.refl _ _).alloc _⟩ ?_
  rintro V2 ⟨g2, eg2, Bg2, hkV2⟩
  rw [eg2]
  have hkV3 : Kept [] V V2 := ((Kept.refl [] V).call hb3).next hkV2 (by simp)
  have hk22 : Kept [] w2 V2 := hkV.next hkV3 (by simp)
  have ⟨LGV, CGV, FGV⟩ := hkV3.blk (by simp) Bg
  have ⟨LG2, CG2, FG2⟩ := Bg2
  have hBV2 : Below w.heap.size w V2 := hkV3.below hBV hBV.size (by simp)
  have X1 := Lib.hid (HR2.out.later hk22.toBelow)
  have X2 := Lib.hid (HF2.out.later hk22.toBelow)
  have Y1 := Lib.hid (HR3.out.later hkV2.toBelow)
  have Y2 := Lib.hid (HF3.out.later hkV2.toBelow)
  clear C0V F0V eg2
  go_wp2_with (first
    | (go_at_call 30; refine (rsame_eq S1 S2 T1 T2 n1 n1 n1 n1 d1 d2 _ _ _ X1.out Y1.out X2.out Y2.out hn140 hn140).mono ?_; rintro e w4 ⟨rfl, hb4⟩)
    | (go_at_call 26; refine (knows_any _).mono ?_; rintro e w5 ⟨rfl, hb5⟩))
  go_ret
  exact ⟨rfl, (((Kept.refl [] V2).call hb4).call hb5).below hBV2 hBV2.size (by simp)⟩
end Go.Proofs.Ytffkikhknabddaa
