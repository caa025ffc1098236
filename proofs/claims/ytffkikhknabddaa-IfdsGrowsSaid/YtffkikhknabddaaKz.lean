/- The contract of within. -/
import Derived.Test.YtffkikhknabddaaKv
namespace Go.Proofs.Ytffkikhknabddaa
open Go.RowKit Go.Df Go.Df.If
attribute [local go_sem ↓] Go.wp_at_zero Go.wp_at_succ

set_option maxRecDepth 100000 in
set_option maxHeartbeats 4000000 in
theorem within_ok (A1 A2 D1 D2 : Option Addr) (n a1 m a2 n' d1 m' d2 : Nat) (re re' : List Bool) (fs fs' : List (List Int)) (w : World) (hA1 : Bls w A1 n re) (hA2 : IntsR w A2 m fs) (hB1 : Bls w D1 n' re') (hB2 : IntsR w D2 m' fs')
    (hn : n ≤ 1000000) (hm : m ≤ 1000000) (hn' : n' ≤ 1000000) (hm' : m' ≤ 1000000) (h1 : ∀ i, i < n → gbl re i = true → holdsS re' fs' i 0 = true) (h2 : ∀ i, i < m → ∀ x ∈ gil fs i, holdsS re' fs' i x = true) :
    Calls Try.prog 38 #[.agg #[.slice A1 n a1, .slice A2 m a2], .agg #[.slice D1 n' d1, .slice D2 m' d2]] w fun e w' => e = .returned (.bool true) ∧ Below w.heap.size w w' := by
  have HA1 := Lib.hid hA1
  have HA2 := Lib.hid hA2
  have HB1 := Lib.hid hB1
  have HB2 := Lib.hid hB2
  have H1 := Lib.hid h1
  have H2 := Lib.hid h2
  clear hA1 hA2 hB1 hB2 h1 h2
  go_enter Try.func38, Try.ntmps38
  go_upto_region 1 with fail
  refine wp_named (fun W => ∃ b0 b1, w.heap.size = b0 ∧ w.heap.size + 1 = b1 ∧ Blk W b0 [.slice A1 n a1, .slice A2 m a2] ∧ Blk W b1 [.slice D1 n' d1, .slice D2 m' d2] ∧ Below w.heap.size w W) ⟨_, _, rfl, rfl, ?_, ?_, ?_⟩ ?_
  · exact (Blk.new _ _ _ _ (by first | rfl | simp)).alloc _
  · exact Blk.new _ _ _ _ (by first | rfl | simp)
  · go_grown
  rintro W ⟨b0, b1, e0, e1, B0, B1, hB⟩
  rw [e1, e0]
  have G0 : w.heap.size ≤ b0 := by omega
  have n01 : b0 ≠ b1 := by omega
  have G1 : w.heap.size ≤ b1 := by omega
  have n10 : b1 ≠ b0 := by omega
  clear e0 e1
  have ⟨L0, C0, F0⟩ := B0
  have ⟨L1, C1, F1⟩ := B1
  go_wp2_with fail
  go_loopw [5] (fun s5 wr => ∃ i : Nat, i ≤ n ∧ s5 = .int .i64 i ∧ Kept [] W wr) (fun s5 _ => n - (intOf s5).toNat)
  case atStart => exact ⟨0, Nat.zero_le _, rfl, Kept.refl _ _⟩
  case round =>
  clear C0 F0 C1 F1
  obtain ⟨i, hi, rfl, hkr⟩ := hrel
  have ⟨L0r, C0r, F0r⟩ := hkr.blk (by simp) B0
  have ⟨L1r, C1r, F1r⟩ := hkr.blk (by simp) B1
  have hBr : Below w.heap.size w wr := hkr.below hB hB.size (by simp)
  by_cases hlt : i < n
  · obtain ⟨q1, o1, rfl, hl1, hc1⟩ := (HA1.out.later hBr).2 (by omega)
    have r1 := hc1 i hlt
    have hi9 : (i : Int) < (n : Int) := by omega
    clear hc1
    cases hx : gbl re i with
    | false =>
      rw [hx] at r1
      clear hx
      go_wp2_with fail
      exact ⟨⟨i + 1, by omega, by go_num, hkr⟩, by simp [intOf]; omega⟩
    | true =>
      have HH := Lib.hid (H1.out i hlt hx)
      rw [hx] at r1
      clear hx
      go_wp2_with (go_at_call 32; refine (rholds_any D1 D2 n' d1 m' d2 re' fs' i 0 _ (HB1.out.later hBr) (HB2.out.later hBr) (by omega) (by omega)).mono ?_; rw [HH.out]; rintro e w3 ⟨rfl, hb3⟩)
      exact ⟨⟨i + 1, by omega, by go_num, hkr.call hb3⟩, by simp [intOf]; omega⟩
  obtain rfl : i = n := by omega
  go_wp2_with fail
  go_loopw [6] (fun s6 wz => ∃ q : Nat, q ≤ m ∧ s6 = .int .i64 q ∧ Kept [] W wz) (fun s6 _ => m - (intOf s6).toNat)
  case atStart => exact ⟨0, Nat.zero_le _, rfl, hkr⟩
  case round =>
  rename World => wz
  clear C0r F0r C1r F1r
  obtain ⟨q, hq, rfl, hkz⟩ := hrel
  have B0z := hkz.blk (by simp) B0
  have B1z := hkz.blk (by simp) B1
  have ⟨L0z, C0z, F0z⟩ := B0z
  have ⟨L1z, C1z, F1z⟩ := B1z
  have hBz : Below w.heap.size w wz := hkz.below hB hB.size (by simp)
  by_cases hltq : q < m
  case neg =>
    obtain rfl : q = m := by omega
    go_wp2_with fail
    go_ret
    exact ⟨rfl, hBz⟩
  obtain ⟨q1, o1, rfl, hl1, hc1⟩ := HA2.out.2 (by omega)
  obtain ⟨Ai, ni, ci, r1, i1, n1⟩ := hc1 q hltq
  have HR1 := Lib.hid r1
  have I1 := Lib.hid i1
  have hq9 : (q : Int) < (m : Int) := by omega
  clear hc1 i1 r1
  go_wp2_with fail
  go_loopw [7] (fun s7 wq => ∃ t : Nat, t ≤ ni ∧ s7 = .int .i64 t ∧ Kept [] wz wq) (fun s7 _ => ni - (intOf s7).toNat)
  case atStart => exact ⟨0, Nat.zero_le _, rfl, Kept.refl _ _⟩
  case round =>
  rename World => wq
  clear C0z F0z C1z F1z
  obtain ⟨t, ht, rfl, hkq⟩ := hrel
  have ⟨L0q, C0q, F0q⟩ := hkq.blk (by simp) B0z
  have ⟨L1q, C1q, F1q⟩ := hkq.blk (by simp) B1z
  have hBq : Below w.heap.size w wq := hkq.below hBz hBz.size (by simp)
  have r1 := (hBq.cell (p := ⟨q1, _, none⟩) hl1).trans HR1.out
  have l1q : q1 < wq.heap.size := Nat.lt_of_lt_of_le hl1 hBq.size
  by_cases hltt : t < ni
  · obtain ⟨q2, o2, rfl, hl2, hc2⟩ := I1.out.2 (by omega)
    have r2 := (hBq.cell (p := ⟨q2, _, none⟩) hl2).trans (hc2 t hltt)
    have l2q : q2 < wq.heap.size := Nat.lt_of_lt_of_le hl2 hBq.size
    obtain ⟨x, hx⟩ : ∃ x, gi (gil fs q) t = x := ⟨_, rfl⟩
    rw [hx] at r2
    have HH := Lib.hid (H2.out q hltq x (mem_upto (by rw [I1.out.1]; exact hltt) hx))
    have ht9 : (t : Int) < (ni : Int) := by omega
    clear hc2 hx
    go_upto_region 12 with fail
    refine wp_region_E 11 (fun w' => SX0 wq w') (by kernel_rfl) (by (repeat' first | (with_reducible assumption) | (with_reducible exact SX0.init _) | (with_reducible exact SX0.refl _) | (with_reducible refine SX0.alloc ?_ _) | (with_reducible refine SX0.call ?_ (by assumption)) | (with_reducible refine SX0.set ?_ _ _ _ ?_) | (with_reducible refine SX0.drew ?_) | (simp; done) | omega | (simp; omega))) (fun hHeld => ?_)
    refine WE_take 0 (v := ?_) rfl (by kernel_rfl) (fun _ _ _ h => h) (Or.inl ⟨by rfl, ?_⟩) (by assumption) ?_; rotate_left; (· intro w9 hSw; (try dsimp only at hSw); go_simp; try with_reducible rfl); (try simp only [Act.put, List.setIfInBounds_toArray, List.set_cons_zero, List.set_cons_succ])
    refine WE_take 1 (v := ?_) rfl (by kernel_rfl) (fun _ _ _ h => h) (Or.inl ⟨by rfl, ?_⟩) (by assumption) ?_; rotate_left; (· intro w9 hSw; (try dsimp only at hSw); go_simp; try with_reducible rfl); (try simp only [Act.put, List.setIfInBounds_toArray, List.set_cons_zero, List.set_cons_succ])
    refine WE_take 2 (v := ?_) rfl (by kernel_rfl) (fun _ _ _ h => h) (Or.inl ⟨by rfl, ?_⟩) (by assumption) ?_; rotate_left; (· intro w9 hSw; (try dsimp only at hSw); go_simp; try with_reducible rfl); (try simp only [Act.put, List.setIfInBounds_toArray, List.set_cons_zero, List.set_cons_succ])
    refine WE_take 3 (v := ?_) rfl (by kernel_rfl) (fun _ _ _ h => h) (Or.inl ⟨by rfl, ?_⟩) (by assumption) ?_; rotate_left; (· intro w9 hSw; (try dsimp only at hSw); go_simp; try with_reducible rfl); (try simp only [Act.put, List.setIfInBounds_toArray, List.set_cons_zero, List.set_cons_succ])
    refine WE_take 4 (v := ?_) rfl (by kernel_rfl) (fun _ _ _ h => h) (Or.inl ⟨by rfl, ?_⟩) (by assumption) ?_; rotate_left; (· intro w9 hSw; (try dsimp only at hSw); go_simp; try with_reducible rfl); (try simp only [Act.put, List.setIfInBounds_toArray, List.set_cons_zero, List.set_cons_succ])
    refine WE_take 5 (v := ?_) rfl (by kernel_rfl) (fun _ _ _ h => h) (Or.inl ⟨by rfl, ?_⟩) (by assumption) ?_; rotate_left; (· intro w9 hSw; (try dsimp only at hSw); go_simp; try with_reducible rfl); (try simp only [Act.put, List.setIfInBounds_toArray, List.set_cons_zero, List.set_cons_succ])
    refine WE_take 6 (v := ?_) rfl (by kernel_rfl) (fun _ _ _ h => h) (Or.inl ⟨by rfl, ?_⟩) (by assumption) ?_; rotate_left; (· intro w9 hSw; (try dsimp only at hSw); go_simp; try with_reducible rfl); (try simp only [Act.put, List.setIfInBounds_toArray, List.set_cons_zero, List.set_cons_succ])
    refine WE_take 7 (v := ?_) rfl (by kernel_rfl) (fun _ _ _ h => h) (Or.inl ⟨by rfl, ?_⟩) (by assumption) ?_; rotate_left; (· intro w9 hSw; (try dsimp only at hSw); go_simp; try with_reducible rfl); (try simp only [Act.put, List.setIfInBounds_toArray, List.set_cons_zero, List.set_cons_succ])
    refine WE_take 8 (v := ?_) rfl (by kernel_rfl) (fun _ _ _ h => h) (Or.inl ⟨by rfl, ?_⟩) (by assumption) ?_; rotate_left; (· intro w9 hSw; (try dsimp only at hSw); go_simp; try with_reducible rfl); (try simp only [Act.put, List.setIfInBounds_toArray, List.set_cons_zero, List.set_cons_succ])
    refine WE_take 9 (v := ?_) rfl (by kernel_rfl) (fun _ _ _ h => h) (Or.inl ⟨by rfl, ?_⟩) (by assumption) ?_; rotate_left; (· intro w9 hSw; (try dsimp only at hSw); go_simp; try with_reducible rfl); (try simp only [Act.put, List.setIfInBounds_toArray, List.set_cons_zero, List.set_cons_succ])
    refine WE_step 10 rfl (by kernel_rfl) (fun K hK => ?_)
    go_simp
    (go_at_call 32; refine (rholds_any D1 D2 n' d1 m' d2 re' fs' q x _ ((HB1.out.later hBq).later (Kept.refl [] _).drew.toBelow) ((HB2.out.later hBq).later (Kept.refl [] _).drew.toBelow) (by omega) (by omega)).mono ?_; rw [HH.out]; rintro e w5 ⟨rfl, hb5⟩; have HK5 := Lib.hid (((Kept.refl [] wq).drew).call hb5))
    (try go_wp2_with fail)
    refine hK.out _ _ ?_ (fun hHeld => ?_)
    · (repeat' first | (with_reducible assumption) | (with_reducible exact SX0.init _) | (with_reducible exact SX0.refl _) | (with_reducible refine SX0.alloc ?_ _) | (with_reducible refine SX0.call ?_ (by assumption)) | (with_reducible refine SX0.set ?_ _ _ _ ?_) | (with_reducible refine SX0.drew ?_) | (simp; done) | omega | (simp; omega))
    clear hK K
    try simp only [Act.put, List.setIfInBounds_toArray, List.set_cons_zero, List.set_cons_succ]
    refine WE_last rfl (by kernel_rfl) (fun K hK => ?_)
    go_simp
    refine hK.out _ _ ?_
    clear hK K
    go_wp2_with fail
    exact ⟨⟨t + 1, by omega, by go_num, hkq.next HK5.out (by simp)⟩, by simp [intOf]; omega⟩
  · obtain rfl : t = ni := by omega
    go_wp2_with fail
    exact ⟨⟨q + 1, by omega, by go_num, hkz.next hkq (by simp)⟩, by simp [intOf]; omega⟩
end Go.Proofs.Ytffkikhknabddaa
