/- The contracts of the reference's Same at equal solutions, and of small (law 30). -/
import Derived.Test.YtmbihjlflcjlnaaGreatZa
import Derived.Test.YtmbihjlflcjlnaaGreatZf
import Derived.Test.YtmbihjlflcjlnaaGreatLe
namespace Go.Proofs.YtmbihjlflcjlnaaGreat
open Go.RowKit Go.Df Go.Df.If
attribute [local go_sem ↓] Go.wp_at_zero Go.wp_at_succ

set_option maxRecDepth 100000 in
set_option maxHeartbeats 4000000 in
theorem rsamef_eq (A B : Option Addr) (n a b : Nat) (l : List Int) (w : World) (hA : Ints w A n l) (hB : Ints w B n l) (hn : n ≤ 9223372036854775807) :
    Calls Tryz.prog 45 #[.slice A n a, .slice B n b] w fun e w' => e = .returned (.bool true) ∧ Below w.heap.size w w' := by
  have HA := Lib.hid hA
  have HB := Lib.hid hB
  clear hA hB
  go_enter Tryz.func45, Tryz.ntmps45
  go_wp2_with fail
  go_loopw [5] (fun s5 wr => ∃ i : Nat, i ≤ n ∧ s5 = .int .i64 i ∧ Kept [] w wr) (fun s5 _ => n - (intOf s5).toNat)
  case atStart => exact ⟨0, Nat.zero_le _, rfl, Kept.refl _ _⟩
  case round =>
  obtain ⟨i, hi, rfl, hkr⟩ := hrel
  by_cases hlt : i < n
  · obtain ⟨b1, o1, rfl, hl1, hc1⟩ := HA.out.2 (by omega)
    obtain ⟨b2, o2, rfl, hl2, hc2⟩ := HB.out.2 (by omega)
    have r1 := (hkr.cell b1 _ hl1 (by simp)).trans (hc1 i hlt)
    have r2 := (hkr.cell b2 _ hl2 (by simp)).trans (hc2 i hlt)
    obtain ⟨x, hx⟩ : ∃ x, gi l i = x := ⟨_, rfl⟩
    rw [hx] at r1 r2
    have l1 : b1 < wr.heap.size := Nat.lt_of_lt_of_le hl1 hkr.size
    have l2 : b2 < wr.heap.size := Nat.lt_of_lt_of_le hl2 hkr.size
    have hi9 : (i : Int) < (n : Int) := by omega
    clear hc1 hc2 hx
    go_upto_region 6 with fail
    go_quiet (fail)
    go_wp2_with fail
    exact ⟨⟨i + 1, by omega, by go_num, hkr.drewN _⟩, by simp [intOf]; omega⟩
  · obtain rfl : i = n := by omega
    go_wp2_with fail
    go_ret
    exact ⟨rfl, hkr.toBelow⟩

set_option maxRecDepth 100000 in
set_option maxHeartbeats 4000000 in
theorem rsame_eq (A1 A2 B1 B2 : Option Addr) (n m a1 a2 d1 d2 : Nat) (re : List Bool) (fs : List (List Int)) (w : World) (hA1 : Bls w A1 n re) (hB1 : Bls w B1 n re) (hA2 : IntsR w A2 m fs) (hB2 : IntsR w B2 m fs) (hn : n ≤ 1000000) (hm : m ≤ 1000000) :
    Calls Tryz.prog 20 #[.agg #[.slice A1 n a1, .slice A2 m a2], .agg #[.slice B1 n d1, .slice B2 m d2]] w fun e w' => e = .returned (.bool true) ∧ Below w.heap.size w w' := by
  have HA1 := Lib.hid hA1
  have HB1 := Lib.hid hB1
  have HA2 := Lib.hid hA2
  have HB2 := Lib.hid hB2
  clear hA1 hB1 hA2 hB2
  go_enter Tryz.func20, Tryz.ntmps20
  go_upto_region 1 with fail
  refine wp_named (fun W => ∃ b0 b1, w.heap.size = b0 ∧ w.heap.size + 1 = b1 ∧ Blk W b0 [.slice A1 n a1, .slice A2 m a2] ∧ Blk W b1 [.slice B1 n d1, .slice B2 m d2] ∧ Below w.heap.size w W) ⟨_, _, rfl, rfl, ?_, ?_, ?_⟩ ?_
  · exact (Blk.new _ _ _ _ (by first | rfl | simp)).alloc _
  · exact Blk.new _ _ _ _ (by first | rfl | simp)
  · go_grown
  rintro W ⟨b0, b1, e0, e1, B0, B1, hB⟩
  rw [e1, e0]
  have G0 : w.heap.size ≤ b0 := by omega
  have n01 : b0 ≠ b1 := by omega
  have G1 : w.heap.size ≤ b1 := by omega
  have n10 : b1 ≠ b0 := by omega
  clear e0 e1
  have ⟨L0, C0, F0⟩ := B0
  have ⟨L1, C1, F1⟩ := B1
  go_wp2_with fail
  go_loopw [5] (fun s5 wr => ∃ i : Nat, i ≤ n ∧ s5 = .int .i64 i ∧ Kept [] W wr) (fun s5 _ => n - (intOf s5).toNat)
  case atStart => exact ⟨0, Nat.zero_le _, rfl, Kept.refl _ _⟩
  case round =>
  clear C0 F0 C1 F1
  obtain ⟨i, hi, rfl, hkr⟩ := hrel
  have ⟨L0r, C0r, F0r⟩ := hkr.blk (by simp) B0
  have ⟨L1r, C1r, F1r⟩ := hkr.blk (by simp) B1
  have hBr : Below w.heap.size w wr := hkr.below hB hB.size (by simp)
  by_cases hlt : i < n
  · obtain ⟨q1, o1, rfl, hl1, hc1⟩ := (HA1.out.later hBr).2 (by omega)
    obtain ⟨q2, o2, rfl, hl2, hc2⟩ := (HB1.out.later hBr).2 (by omega)
    have r1 := hc1 i hlt
    have r2 := hc2 i hlt
    obtain ⟨x, hx⟩ : ∃ x, gbl re i = x := ⟨_, rfl⟩
    rw [hx] at r1 r2
    have hi9 : (i : Int) < (n : Int) := by omega
    clear hc1 hc2 hx
    go_upto_region 6 with fail
    go_quiet (fail)
    cases x <;> (go_wp2_with fail; exact ⟨⟨i + 1, by omega, by go_num, hkr.drewN _⟩, by simp [intOf]; omega⟩)
  · obtain rfl : i = n := by omega
    go_wp2_with fail
    go_loopw [6] (fun s6 wz => ∃ q : Nat, q ≤ m ∧ s6 = .int .i64 q ∧ Kept [] W wz) (fun s6 _ => m - (intOf s6).toNat)
    case atStart => exact ⟨0, Nat.zero_le _, rfl, hkr⟩
    case round =>
    rename World => wz
    clear C0r F0r C1r F1r
    obtain ⟨q, hq, rfl, hkz⟩ := hrel
    have ⟨L0z, C0z, F0z⟩ := hkz.blk (by simp) B0
    have ⟨L1z, C1z, F1z⟩ := hkz.blk (by simp) B1
    have hBz : Below w.heap.size w wz := hkz.below hB hB.size (by simp)
    by_cases hltq : q < m
    · obtain ⟨q1, o1, rfl, hl1, hc1⟩ := (HA2.out.later hBz).2 (by omega)
      obtain ⟨q2, o2, rfl, hl2, hc2⟩ := (HB2.out.later hBz).2 (by omega)
      obtain ⟨Ai, ni, ci, r1, i1, n1⟩ := hc1 q hltq
      obtain ⟨Bi, mi, di, r2, i2, n2⟩ := hc2 q hltq
      obtain rfl : ni = mi := by have := i1.1; have := i2.1; omega
      have I1 := Lib.hid i1
      have I2 := Lib.hid i2
      have hq9 : (q : Int) < (m : Int) := by omega
      clear hc1 hc2 i1 i2
      go_upto_region 11 with fail
      refine wp_region_E 11 (fun w' => SX0 wz w') (by kernel_rfl) (by (repeat' first | (with_reducible assumption) | (with_reducible exact SX0.init _) | (with_reducible exact SX0.refl _) | (with_reducible refine SX0.alloc ?_ _) | (with_reducible refine SX0.call ?_ (by assumption)) | (with_reducible refine SX0.set ?_ _ _ _ ?_) | (with_reducible refine SX0.drew ?_) | (simp; done) | omega | (simp; omega))) (fun hHeld => ?_)
      refine WE_take 0 (v := ?_) rfl (by kernel_rfl) (fun _ _ _ h => h) (Or.inl ⟨by rfl, ?_⟩) (by assumption) ?_; rotate_left; (· intro w9 hSw; (try dsimp only at hSw); go_simp; try with_reducible rfl); (try simp only [Act.put, List.setIfInBounds_toArray, List.set_cons_zero, List.set_cons_succ])
      refine WE_take 1 (v := ?_) rfl (by kernel_rfl) (fun _ _ _ h => h) (Or.inl ⟨by rfl, ?_⟩) (by assumption) ?_; rotate_left; (· intro w9 hSw; (try dsimp only at hSw); go_simp; try with_reducible rfl); (try simp only [Act.put, List.setIfInBounds_toArray, List.set_cons_zero, List.set_cons_succ])
      refine WE_take 2 (v := ?_) rfl (by kernel_rfl) (fun _ _ _ h => h) (Or.inl ⟨by rfl, ?_⟩) (by assumption) ?_; rotate_left; (· intro w9 hSw; (try dsimp only at hSw); go_simp; try with_reducible rfl); (try simp only [Act.put, List.setIfInBounds_toArray, List.set_cons_zero, List.set_cons_succ])
      refine WE_take 3 (v := ?_) rfl (by kernel_rfl) (fun _ _ _ h => h) (Or.inl ⟨by rfl, ?_⟩) (by assumption) ?_; rotate_left; (· intro w9 hSw; (try dsimp only at hSw); go_simp; try with_reducible rfl); (try simp only [Act.put, List.setIfInBounds_toArray, List.set_cons_zero, List.set_cons_succ])
      refine WE_take 4 (v := ?_) rfl (by kernel_rfl) (fun _ _ _ h => h) (Or.inl ⟨by rfl, ?_⟩) (by assumption) ?_; rotate_left; (· intro w9 hSw; (try dsimp only at hSw); go_simp; try with_reducible rfl); (try simp only [Act.put, List.setIfInBounds_toArray, List.set_cons_zero, List.set_cons_succ])
      refine WE_take 5 (v := ?_) rfl (by kernel_rfl) (fun _ _ _ h => h) (Or.inl ⟨by rfl, ?_⟩) (by assumption) ?_; rotate_left; (· intro w9 hSw; (try dsimp only at hSw); go_simp; try with_reducible rfl); (try simp only [Act.put, List.setIfInBounds_toArray, List.set_cons_zero, List.set_cons_succ])
      refine WE_take 6 (v := ?_) rfl (by kernel_rfl) (fun _ _ _ h => h) (Or.inl ⟨by rfl, ?_⟩) (by assumption) ?_; rotate_left; (· intro w9 hSw; (try dsimp only at hSw); go_simp; try with_reducible rfl); (try simp only [Act.put, List.setIfInBounds_toArray, List.set_cons_zero, List.set_cons_succ])
      refine WE_take 7 (v := ?_) rfl (by kernel_rfl) (fun _ _ _ h => h) (Or.inl ⟨by rfl, ?_⟩) (by assumption) ?_; rotate_left; (· intro w9 hSw; (try dsimp only at hSw); go_simp; try with_reducible rfl); (try simp only [Act.put, List.setIfInBounds_toArray, List.set_cons_zero, List.set_cons_succ])
      refine WE_take 8 (v := ?_) rfl (by kernel_rfl) (fun _ _ _ h => h) (Or.inl ⟨by rfl, ?_⟩) (by assumption) ?_; rotate_left; (· intro w9 hSw; (try dsimp only at hSw); go_simp; try with_reducible rfl); (try simp only [Act.put, List.setIfInBounds_toArray, List.set_cons_zero, List.set_cons_succ])
      refine WE_take 9 (v := ?_) rfl (by kernel_rfl) (fun _ _ _ h => h) (Or.inl ⟨by rfl, ?_⟩) (by assumption) ?_; rotate_left; (· intro w9 hSw; (try dsimp only at hSw); go_simp; try with_reducible rfl); (try simp only [Act.put, List.setIfInBounds_toArray, List.set_cons_zero, List.set_cons_succ])
      refine WE_step 10 rfl (by kernel_rfl) (fun K hK => ?_)
      go_simp
      (go_at_call 45; refine (rsamef_eq Ai Bi ni ci di _ _ (I1.out.later (Kept.refl [] _).drew.toBelow) (I2.out.later (Kept.refl [] _).drew.toBelow) n1).mono ?_; rintro e w5 ⟨rfl, hb5⟩; have HK5 := Lib.hid (((Kept.refl [] wz).drew).call hb5))
      (try go_wp2_with fail)
      refine hK.out _ _ ?_ (fun hHeld => ?_)
      · (repeat' first | (with_reducible assumption) | (with_reducible exact SX0.init _) | (with_reducible exact SX0.refl _) | (with_reducible refine SX0.alloc ?_ _) | (with_reducible refine SX0.call ?_ (by assumption)) | (with_reducible refine SX0.set ?_ _ _ _ ?_) | (with_reducible refine SX0.drew ?_) | (simp; done) | omega | (simp; omega))
      clear hK K
      try simp only [Act.put, List.setIfInBounds_toArray, List.set_cons_zero, List.set_cons_succ]
      refine WE_last rfl (by kernel_rfl) (fun K hK => ?_)
      go_simp
      refine hK.out _ _ ?_
      clear hK K
      go_wp2_with fail
      exact ⟨⟨q + 1, by omega, by go_num, hkz.next HK5.out (by simp)⟩, by simp [intOf]; omega⟩
    · obtain rfl : q = m := by omega
      go_wp2_with fail
      go_ret
      exact ⟨rfl, hBz⟩

set_option maxRecDepth 100000 in
set_option maxHeartbeats 4000000 in
theorem small30_any (A1 A2 A3 A4 : Option Addr) (n1 c1 n2 c2 n3 c3 n4 c4 : Nat) (mn F : Int) (ls : List (List Pr)) (w : World) (hF : Flw w A3 n3 ls) :
    Calls Tryz.prog 7 #[.agg #[.slice A1 n1 c1, .slice A2 n2 c2, .int .i64 mn, .int .i64 F, .slice A3 n3 c3, .slice A4 n4 c4]] w fun e w' => (∃ b, e = .returned (.bool b) ∧ (b = true → n1 ≤ 40 ∧ n2 ≤ 80 ∧ F ≤ 8 ∧ n3 ≤ 80 ∧ n4 ≤ 20)) ∧ Below w.heap.size w w' := by
  have HF := Lib.hid hF
  clear hF
  by_cases t1 : 40 < n1
  · have d1 : decide ((40 : Int) < n1) = true := by simp; omega
    clear t1
    go_enter Tryz.func7, Tryz.ntmps7
    go_upto_region 1 with fail
    refine wp_named (fun W => ∃ b0, w.heap.size = b0 ∧ Blk W b0 [.slice A1 n1 c1, .slice A2 n2 c2, .int .i64 mn, .int .i64 F, .slice A3 n3 c3, .slice A4 n4 c4] ∧ Below w.heap.size w W) ⟨_, rfl, ?_, ?_⟩ ?_
    · exact Blk.new _ _ _ _ (by first | rfl | simp)
    · go_grown
    rintro W ⟨b0, e0, B0, hB⟩
    rw [e0]
    have G0 : w.heap.size ≤ b0 := by omega
    clear e0
    have ⟨L0, C0, F0⟩ := B0
    go_wp2_with fail
    go_ret
    exact ⟨⟨false, rfl, fun h => by cases h⟩, hB⟩
  have d1 : decide ((40 : Int) < n1) = false := by simp; omega
  by_cases t2 : 80 < n2
  · have d2 : decide ((80 : Int) < n2) = true := by simp; omega
    clear t1 t2
    go_enter Tryz.func7, Tryz.ntmps7
    go_upto_region 1 with fail
    refine wp_named (fun W => ∃ b0, w.heap.size = b0 ∧ Blk W b0 [.slice A1 n1 c1, .slice A2 n2 c2, .int .i64 mn, .int .i64 F, .slice A3 n3 c3, .slice A4 n4 c4] ∧ Below w.heap.size w W) ⟨_, rfl, ?_, ?_⟩ ?_
    · exact Blk.new _ _ _ _ (by first | rfl | simp)
    · go_grown
    rintro W ⟨b0, e0, B0, hB⟩
    rw [e0]
    have G0 : w.heap.size ≤ b0 := by omega
    clear e0
    have ⟨L0, C0, F0⟩ := B0
    go_wp2_with fail
    go_ret
    exact ⟨⟨false, rfl, fun h => by cases h⟩, hB⟩
  have d2 : decide ((80 : Int) < n2) = false := by simp; omega
  by_cases t3 : 8 < F
  · have d3 : decide ((8 : Int) < F) = true := by simpa using t3
    clear t1 t2 t3
    go_enter Tryz.func7, Tryz.ntmps7
    go_upto_region 1 with fail
    refine wp_named (fun W => ∃ b0, w.heap.size = b0 ∧ Blk W b0 [.slice A1 n1 c1, .slice A2 n2 c2, .int .i64 mn, .int .i64 F, .slice A3 n3 c3, .slice A4 n4 c4] ∧ Below w.heap.size w W) ⟨_, rfl, ?_, ?_⟩ ?_
    · exact Blk.new _ _ _ _ (by first | rfl | simp)
    · go_grown
    rintro W ⟨b0, e0, B0, hB⟩
    rw [e0]
    have G0 : w.heap.size ≤ b0 := by omega
    clear e0
    have ⟨L0, C0, F0⟩ := B0
    go_wp2_with fail
    go_ret
    exact ⟨⟨false, rfl, fun h => by cases h⟩, hB⟩
  have d3 : decide ((8 : Int) < F) = false := by simpa using t3
  by_cases t4 : 80 < n3
  · have d4 : decide ((80 : Int) < n3) = true := by simp; omega
    clear t1 t2 t3 t4
    go_enter Tryz.func7, Tryz.ntmps7
    go_upto_region 1 with fail
    refine wp_named (fun W => ∃ b0, w.heap.size = b0 ∧ Blk W b0 [.slice A1 n1 c1, .slice A2 n2 c2, .int .i64 mn, .int .i64 F, .slice A3 n3 c3, .slice A4 n4 c4] ∧ Below w.heap.size w W) ⟨_, rfl, ?_, ?_⟩ ?_
    · exact Blk.new _ _ _ _ (by first | rfl | simp)
    · go_grown
    rintro W ⟨b0, e0, B0, hB⟩
    rw [e0]
    have G0 : w.heap.size ≤ b0 := by omega
    clear e0
    have ⟨L0, C0, F0⟩ := B0
    go_wp2_with fail
    go_ret
    exact ⟨⟨false, rfl, fun h => by cases h⟩, hB⟩
  have d4 : decide ((80 : Int) < n3) = false := by simp; omega
  by_cases t5 : 20 < n4
  · have d5 : decide ((20 : Int) < n4) = true := by simp; omega
    clear t1 t2 t3 t4 t5
    go_enter Tryz.func7, Tryz.ntmps7
    go_upto_region 1 with fail
    refine wp_named (fun W => ∃ b0, w.heap.size = b0 ∧ Blk W b0 [.slice A1 n1 c1, .slice A2 n2 c2, .int .i64 mn, .int .i64 F, .slice A3 n3 c3, .slice A4 n4 c4] ∧ Below w.heap.size w W) ⟨_, rfl, ?_, ?_⟩ ?_
    · exact Blk.new _ _ _ _ (by first | rfl | simp)
    · go_grown
    rintro W ⟨b0, e0, B0, hB⟩
    rw [e0]
    have G0 : w.heap.size ≤ b0 := by omega
    clear e0
    have ⟨L0, C0, F0⟩ := B0
    go_wp2_with fail
    go_ret
    exact ⟨⟨false, rfl, fun h => by cases h⟩, hB⟩
  have d5 : decide ((20 : Int) < n4) = false := by simp; omega
  have HOK : Hid (n1 ≤ 40 ∧ n2 ≤ 80 ∧ F ≤ 8 ∧ n3 ≤ 80 ∧ n4 ≤ 20) := by show _ ∧ _; omega
  have hn3 : n3 ≤ 80 := by omega
  clear t1 t2 t3 t4 t5
  go_enter Tryz.func7, Tryz.ntmps7
  go_upto_region 1 with fail
  refine wp_named (fun W => ∃ b0, w.heap.size = b0 ∧ Blk W b0 [.slice A1 n1 c1, .slice A2 n2 c2, .int .i64 mn, .int .i64 F, .slice A3 n3 c3, .slice A4 n4 c4] ∧ Below w.heap.size w W) ⟨_, rfl, ?_, ?_⟩ ?_
  · exact Blk.new _ _ _ _ (by first | rfl | simp)
  · go_grown
  rintro W ⟨b0, e0, B0, hB⟩
  rw [e0]
  have G0 : w.heap.size ≤ b0 := by omega
  clear e0
  have ⟨L0, C0, F0⟩ := B0
  go_wp2_with fail
  go_loopw [3] (fun s3 wr => ∃ i : Nat, i ≤ n3 ∧ s3 = .int .i64 i ∧ Kept [] W wr) (fun s3 _ => n3 - (intOf s3).toNat)
  case atStart => exact ⟨0, Nat.zero_le _, rfl, Kept.refl _ _⟩
  case round =>
  clear C0 F0
  obtain ⟨i, hi, rfl, hkr⟩ := hrel
  have ⟨L0r, C0r, F0r⟩ := hkr.blk (by simp) B0
  have hBr : Below w.heap.size w wr := hkr.below hB hB.size (by simp)
  by_cases hlt : i < n3
  · obtain ⟨q1, o1, rfl, hl1, hc1⟩ := (HF.out.later hBr).2 (by omega)
    obtain ⟨Ai, ni, ci, r1, -, -⟩ := hc1 i hlt
    have hi9 : (i : Int) < (n3 : Int) := by omega
    clear hc1
    by_cases t6 : 40 < ni
    · have d6 : decide ((40 : Int) < ni) = true := by simp; omega
      clear t6
      go_wp2_with fail
      go_ret
      exact ⟨⟨false, rfl, fun h => by cases h⟩, hBr⟩
    · have d6 : decide ((40 : Int) < ni) = false := by simp; omega
      clear t6
      go_wp2_with fail
      exact ⟨⟨i + 1, by omega, by go_num, hkr⟩, by simp [intOf]; omega⟩
  · obtain rfl : i = n3 := by omega
    go_wp2_with fail
    go_ret
    exact ⟨⟨true, rfl, fun _ => HOK.out⟩, hBr⟩

end Go.Proofs.YtmbihjlflcjlnaaGreat
