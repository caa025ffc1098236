/- The walk of WorklistSorts. -/
import Derived.Test.YthliphpcfnbmnaaOn
namespace Go.Proofs.Ythliphpcfnbmnaa
open Go.RowKit Go.Df
attribute [local go_sem ↓] Go.wp_at_zero Go.wp_at_succ
/-- What has been pushed after k rounds. -/
def Wl.Turned (r li : List Int) (t k : Nat) : Prop := Wl.Valid r li ∧ li.length = k ∧ ∀ x, x ∈ li ↔ ∃ j : Nat, j < k ∧ x = (((j + t) % r.length : Nat) : Int)
theorem Wl.turned_nil {r : List Int} (t : Nat) (h : r.length ≤ 8192) : Wl.Turned r [] t 0 := ⟨Wl.valid_nil h, rfl, fun x => by simp⟩
theorem mod_apart {n t i j : Nat} (hi : i < n) (hj : j < n) (h : (i + t) % n = (j + t) % n) : i = j := by
  have h1 : (i + t) % n = (j + t) % n := h
  have h2 := Nat.mod_add_div (i + t) n
  have h3 := Nat.mod_add_div (j + t) n
  have h4 : (i + t) / n = (j + t) / n ∨ (i + t) / n < (j + t) / n ∨ (j + t) / n < (i + t) / n := by omega
  rcases h4 with h4 | h4 | h4
  · rw [h4] at h2; omega
  · have : n * ((i + t) / n + 1) ≤ n * ((j + t) / n) := Nat.mul_le_mul_left n h4
    rw [Nat.mul_add] at this
    omega
  · have : n * ((j + t) / n + 1) ≤ n * ((i + t) / n) := Nat.mul_le_mul_left n h4
    rw [Nat.mul_add] at this
    omega
theorem Wl.turned_step {r li : List Int} {t k : Nat} (h : Wl.Turned r li t k) (hk : k < r.length) (hr : r.length ≤ 120) :
    Wl.perr r li (((k + t) % r.length : Nat) : Int) = 0 ∧ Wl.pR r li (((k + t) % r.length : Nat) : Int) = r ∧ Wl.Turned r (Wl.pL r li (((k + t) % r.length : Nat) : Int)) t (k + 1) := by
  obtain ⟨hv, hl, hm⟩ := h
  obtain ⟨m, hmm⟩ : ∃ m, m = (k + t) % r.length := ⟨_, rfl⟩
  have hlt : m < r.length := by rw [hmm]; exact Nat.mod_lt _ (by omega)
  rw [← hmm]
  have hx : (m : Int) ∉ li := by
    intro hx
    obtain ⟨j, hj, e⟩ := (hm _).1 hx
    have e1 : m = (j + t) % r.length := Int.ofNat.inj e
    have := mod_apart (t := t) (by omega) (by omega) (hmm.symm.trans e1)
    omega
  have ha : Wl.allowed r.length (m : Int) = true := by
    unfold Wl.allowed
    rw [if_pos (by omega)]
    simp
    omega
  have h0 : Wl.perr r li (m : Int) = 0 := by
    unfold Wl.perr
    rw [Wl.chk_of_valid hv, ha]
    simp
    intro _
    omega
  refine ⟨h0, by rw [Wl.pR, if_pos h0], ?_⟩
  rw [Wl.pL, if_pos h0, if_neg hx]
  have hp := Wl.ins_perm li (Wl.place r li (m : Int)) (m : Int)
  refine ⟨Wl.valid_ins hv ha hx (by omega), by rw [hp.length_eq]; simp [hl], fun x => ?_⟩
  rw [Wl.mem_ins, hm]
  constructor
  · rintro (rfl | ⟨j, hj, rfl⟩)
    · exact ⟨k, by omega, by rw [hmm]⟩
    · exact ⟨j, by omega, rfl⟩
  · rintro ⟨j, hj, rfl⟩
    rcases Nat.lt_or_ge j k with h1 | h1
    · exact .inr ⟨j, h1, rfl⟩
    · obtain rfl : j = k := by omega
      exact .inl (by rw [hmm])

set_option maxRecDepth 100000 in
set_option maxHeartbeats 2000000 in
theorem sorts_any (A : Option Addr) (n c : Nat) (r : List Int) (t : Nat) (ht : t < 256) (w : World) (hr : SIn w A n c r) :
    Calls Try.prog 5 #[.slice A n c, .int .u8 (t : Int)] w fun e w' => e = .returned (.bool true) ∧ Below w.heap.size w w' := by
  have Hr := Lib.hid hr.1.1
  have HR := Lib.hid hr
  clear hr
  by_cases h0 : n = 0
  · have d2 : ((n : Int) == 0) = true := by simp; omega
    clear h0
    go_enter Try.func5, Try.ntmps5
    go_wp2_with fail
    refine (awake_any _).mono ?_
    rintro e w1 ⟨rfl, hb1⟩
    go_wp2_with fail
    go_ret
    exact ⟨rfl, hb1⟩
  have d2 : ((n : Int) == 0) = false := by simp; omega
  have hn : 0 < n := by omega
  clear h0
  by_cases t1 : 120 < n
  · have d1 : decide ((120 : Int) < n) = true := by simp; omega
    go_enter Try.func5, Try.ntmps5
    go_wp2_with fail
    refine (awake_any _).mono ?_
    rintro e w1 ⟨rfl, hb1⟩
    go_wp2_with fail
    go_ret
    exact ⟨rfl, hb1⟩
  have d1 : decide ((120 : Int) < n) = false := by simp; omega
  have hn2 : n ≤ 120 := by omega
  go_enter Try.func5, Try.ntmps5
  go_wp2_with fail
  refine (new_ok _ _ _ r _ HR.out.1 (by omega) HR.out.2.2.2).mono ?_
  rintro e w1 ⟨A1, n1, c1, A2, n2, c2, rfl, hx1, hx2, hb1, hf1, hf2⟩
  have H1 := Lib.hid hx1
  have H2 := Lib.hid hx2
  clear hx1 hx2 hf1 hf2
  go_upto_region 4 with fail
  refine wp_named (fun V => ∃ g, w1.heap.size = g ∧ Blk V g [.slice A1 n1 c1, .slice A2 n2 c2] ∧ Kept [] w1 V) ⟨_, rfl, Blk.new _ _ _ _ rfl, (Kept.refl _ _).alloc _⟩ ?_
  rintro U ⟨g, eg, Bg, hkU⟩
  rw [eg]
  have G0 : w.heap.size ≤ g := by have := hb1.size; omega
  have hBU : Below w.heap.size w U := hkU.below hb1 hb1.size (by simp)
  have HU := Lib.hid (HR.out.later hBU)
  have H1U := Lib.hid (H1.out.kept hkU)
  have H2U := Lib.hid (H2.out.kept hkU)
  have hAg : Hid (∀ a, A = some a → a.block ≠ g) := fun a ha => by have := HR.out.lt hn ha; omega
  clear eg hkU hb1 H1 H2
  go_wp2_with fail
  go_loopw [6, 7] (fun e i wr => ∃ (k : Nat) (A3 A4 : Option Addr) (n3 c3 n4 c4 : Nat) (li : List Int), k ≤ n ∧ i = .int .i64 k ∧ e = .int .i64 0 ∧ Blk wr g [.slice A3 n3 c3, .slice A4 n4 c4] ∧ Hid (SIn wr A3 n3 c3 r) ∧ Hid (SIn wr A4 n4 c4 li) ∧ Kept [g] U wr ∧ Hid (Wl.Turned r li t k)) (fun _ i _ => n - (intOf i).toNat)
  case atStart => exact ⟨0, A1, A2, n1, c1, n2, c2, [], Nat.zero_le _, rfl, rfl, Bg, H1U, H2U, Kept.refl _ _, Lib.hid (Wl.turned_nil t (by rw [Hr.out]; omega))⟩
  case round =>
    obtain ⟨k, A3, A4, n3, c3, n4, c4, li, hk, rfl, rfl, BR, HR3, HR4, hkR, HT⟩ := hrel
    clear Bg H1U H2U
    have ⟨LR, CR, FR⟩ := BR
    by_cases hkn : k < n
    · have hst := Wl.turned_step HT.out (by rw [Hr.out]; exact hkn) (by rw [Hr.out]; exact hn2)
      rw [Hr.out] at hst
      obtain ⟨m, hmm⟩ : ∃ m, m = (k + t) % n := ⟨_, rfl⟩
      rw [← hmm] at hst
      have HS := Lib.hid hst
      have w1 : IntKind.i64.wrap ((k : Int) + (t : Int)) = (k : Int) + (t : Int) := IntWalk.i64_in _ (by omega)
      have w3 : ((k : Int) + (t : Int)) % (n : Int) = (m : Int) := by rw [hmm]; simp
      have w2 : ((k : Int) + (t : Int)).tmod (n : Int) = (m : Int) := by
        rw [Int.tmod_eq_emod_of_nonneg (by omega)]; exact w3
      have w4 : ¬ ((n : Int) = 0) := by omega
      clear hst hmm
      have k1 : decide (k < n) = true := by simp; omega
      have k2 : decide ((k : Int) < (n : Int)) = true := by simp; omega
      go_upto_region 7 with fail
      go_region_with ((go_at_call 13; refine (push_u (show SIn wr.drew A3 n3 c3 r from HR3.out) (show SIn wr.drew A4 n4 c4 li from HR4.out) (m : Int)).mono ?_; rw [HS.out.1, HS.out.2.1]; rintro e w2 ⟨A5, n5, c5, A6, n6, c6, rfl, hx1, hx2, hb2, hf5, hf6⟩; have H5 := Lib.hid hx1; have H6 := Lib.hid hx2; have HF5 := Lib.hid hf5; have HF6 := Lib.hid hf6; clear hx1 hx2 hf5 hf6; have B2 := BR.drew.later hb2; have ⟨L2, C2, F2⟩ := B2))
      all_goals
        go_wp2_with fail
        have hkf := ((Kept.refl [g] w2).set g 0 (.slice A5 n5 c5) (.inl (by simp))).set g 1 (.slice A6 n6 c6) (.inl (by simp))
        have hkw : Kept [g] U w2 := (hkR.drew).call hb2
        refine ⟨⟨k + 1, A5, A6, n5, c5, n6, c6, _, by omega, by go_num, rfl, Blk.set2 (B2.n rfl), Lib.hid (H5.out.apart HF5.out LR hkf), Lib.hid (H6.out.apart HF6.out LR hkf), ?_, Lib.hid HS.out.2.2⟩, by simp [intOf]; omega⟩
        exact (hkw.set g 0 _ (.inl (by simp))).set g 1 _ (.inl (by simp))
    · obtain rfl : k = n := by omega
      have k1 : decide (k < k) = false := by simp
      have hBR : Below w.heap.size w wr := hkR.below hBU hBU.size (by simpa using G0)
      have HRR := Lib.hid (HR.out.later hBR)
      clear hkR HU HR hAg
      have HV := Lib.hid HT.out.1
      have HLn := Lib.hid HT.out.2.1
      go_wp2_with fail
      refine (drain_s _ _ _ _ _ _ r li _ HR3.out.1 HR4.out.1 HR4.out.2.2.2).mono ?_
      rw [show Wl.items r li = li by rw [Wl.items, if_pos (Wl.chk_of_valid HV.out)]]
      rintro e w3 ⟨A7, n7, c7, rfl, hx1, hb3⟩
      obtain rfl : k = n7 := HLn.out.symm.trans hx1.1.1
      have H7 := Lib.hid hx1
      have H8 := Lib.hid (HRR.out.later hb3)
      have hB3 : Below w.heap.size w w3 := below_step hBR.size hBR hb3
      clear hx1 HR3 HR4 BR LR CR FR
      obtain ⟨b7, o7, e7, l7, hc7⟩ := H7.out.1.at_ hn
      obtain ⟨b8, o8, e8, l8, hc8⟩ := H8.out.1.at_ hn
      subst e7 e8
      have HC7 := Lib.hid hc7
      have HC8 := Lib.hid hc8
      clear hc7 hc8
      go_wp2_with fail
      go_loopw [9] (fun i wr => ∃ (q k2 : Nat), 1 ≤ k2 ∧ k2 ≤ k ∧ i = .int .i64 k2 ∧ wr = w3.drewN q) (fun i _ => k - (intOf i).toNat)
      case atStart => exact ⟨0, 1, Nat.le_refl _, hn, rfl, rfl⟩
      case round =>
        obtain ⟨q, k2, hk1, hk2, rfl, hwr⟩ := hrel
        have hB4 : Below w.heap.size w wr := by rw [hwr]; exact below_step hB3.size hB3 (drewN_below _ _ _)
        have HW := Lib.hid hwr
        by_cases hlt : k2 < k
        · have k1 : decide (k2 < k) = true := by simp; omega
          have k3 : decide ((k2 : Int) < (k : Int)) = true := by simp; omega
          have hma := HV.out.item _ (Wl.gi_mem (l := li) (j := k2 - 1) (by rw [HLn.out]; omega))
          have hmb := HV.out.item _ (Wl.gi_mem (l := li) (j := k2) (by rw [HLn.out]; omega))
          rw [Hr.out] at hma hmb
          obtain ⟨a0, -, a2⟩ := Wl.allowed_lt hma (by omega)
          obtain ⟨b0, -, b2⟩ := Wl.allowed_lt hmb (by omega)
          have a3 := a2 hn
          have b3 := b2 hn
          have hbf := Wl.pairwise_gi.1 (HV.out.order (by rw [Hr.out]; exact hn)) (k2 - 1) k2 (by omega) (by rw [HLn.out]; omega)
          have hca : wr.cell? ⟨b7, o7 + (k2 - 1), none⟩ = some (.int .i64 (gi li (k2 - 1))) := by rw [hwr]; exact HC7.out (k2 - 1) (by omega)
          have hcb : wr.cell? ⟨b7, o7 + k2, none⟩ = some (.int .i64 (gi li k2)) := by rw [hwr]; exact HC7.out k2 (by omega)
          obtain ⟨xa, ea⟩ := Int.eq_ofNat_of_zero_le a0
          obtain ⟨xb, eb⟩ := Int.eq_ofNat_of_zero_le b0
          rw [ea] at hca a3 hbf
          rw [eb] at hcb b3 hbf
          have hra : wr.cell? ⟨b8, o8 + xa, none⟩ = some (.int .i64 (gi r xa)) := by rw [hwr]; exact HC8.out xa (by omega)
          have hrb : wr.cell? ⟨b8, o8 + xb, none⟩ = some (.int .i64 (gi r xb)) := by rw [hwr]; exact HC8.out xb (by omega)
          have g1 : decide ((xa : Int) < 0) = false := by simp
          have g2 : decide ((xb : Int) < 0) = false := by simp
          have g3 : decide (k ≤ xa) = false := by simp; omega
          have g4 : decide (k ≤ xb) = false := by simp; omega
          have g5 : decide ((k : Int) ≤ (xa : Int)) = false := by simp; omega
          have g6 : decide ((k : Int) ≤ (xb : Int)) = false := by simp; omega
          have m1 : (0 : Int) ≤ (k2 : Int) - 1 := by omega
          have m2 : ((k2 : Int) - 1).toNat = k2 - 1 := by omega
          unfold Wl.before at hbf
          simp only [Int.toNat_natCast] at hbf
          clear ea eb a0 b0 a2 b2 hma hmb hwr
          by_cases he : gi r xa = gi r xb
          · rw [if_pos he] at hbf
            have e1 : (gi r xa == gi r xb) = true := by simp [he]
            have e2 : decide (gi r xb < gi r xa) = false := by simp; omega
            have e3 : decide (xb ≤ xa) = false := by simp at hbf; simp; omega
            have e4 : decide ((xb : Int) ≤ (xa : Int)) = false := by simp at hbf; simp; omega
            clear he hbf
            go_wp2_with fail
            go_quiet (fail)
            go_wp2_with fail
            go_quiet (fail)
            go_wp2_with fail
            exact ⟨⟨_, k2 + 1, by omega, by omega, by go_num, by rw [HW.out]; exact World.drewN_drewN _ _ _⟩, by simp [intOf]; omega⟩
          · rw [if_neg he] at hbf
            have e1 : (gi r xa == gi r xb) = false := by simp [he]
            have e2 : decide (gi r xb < gi r xa) = false := by simp at hbf; simp; omega
            clear hbf he
            go_wp2_with fail
            go_quiet (fail)
            go_wp2_with fail
            go_quiet (fail)
            go_wp2_with fail
            exact ⟨⟨_, k2 + 1, by omega, by omega, by go_num, by rw [HW.out]; exact World.drewN_drewN _ _ _⟩, by simp [intOf]; omega⟩
        · have k1 : decide (k2 < k) = false := by simp; omega
          have k3 : decide ((k2 : Int) < (k : Int)) = false := by simp; omega
          clear hwr
          go_wp2_with fail
          refine (awake_any _).mono ?_
          rintro e w5 ⟨rfl, hb5⟩
          go_wp2_with fail
          go_ret
          exact ⟨rfl, below_step hB4.size hB4 hb5⟩
end Go.Proofs.Ythliphpcfnbmnaa
