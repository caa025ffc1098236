/- Contracts of Contains and Equal. -/
import Derived.Test.YthliphpcfnbmnaaB
namespace Go.Proofs.Ythliphpcfnbmnaa
open Go.RowKit Go.Df

set_option maxHeartbeats 400000 in
theorem contains_any (A : Option Addr) (n c : Nat) (l : List Int) (x : Int) (w : World) (hr : Ints w A n l) (hn : n ≤ 9223372036854775807) :
    Calls Try.prog 26 #[.slice A n c, .int .i64 x] w fun e w' => e = .returned (.bool (decide (x ∈ l))) ∧ w = w' := by
  have H := Lib.hid hr
  clear hr
  go_enter Try.func26, Try.ntmps26
  go_wp2_with fail
  refine (index_any _ _ _ l _ _ H.out hn).mono ?_
  rintro e w1 ⟨rfl, rfl⟩
  go_wp2_with fail
  go_ret
  exact ⟨ret_bool (by rw [decide_eq_decide]; exact Wl.index_nonneg l x), rfl⟩

set_option maxHeartbeats 400000 in
theorem equal_any (A B : Option Addr) (n c m d : Nat) (a b : List Int) (w : World) (ha : Ints w A n a) (hb : Ints w B m b) (hn : n ≤ 9223372036854775807) (hm : m ≤ 9223372036854775807) :
    Calls Try.prog 17 #[.slice A n c, .slice B m d] w fun e w' => e = .returned (.bool (decide (a = b))) ∧ Below w.heap.size w w' := by
  by_cases hnm : n = m
  · subst hnm
    have hlen : a.length = b.length := ha.1.trans hb.1.symm
    rcases Nat.eq_zero_or_pos n with rfl | hp
    · have h0 : a = [] := List.eq_nil_of_length_eq_zero ha.1
      have h1 : b = [] := List.eq_nil_of_length_eq_zero hb.1
      have H : Hid (a = b) := Lib.hid (h0.trans h1.symm)
      clear h0 h1 ha hb hlen
      go_enter Try.func17, Try.ntmps17
      go_wp2
      refine wp_loop_rounds 1 ?_
      rw [rounds_succ]
      go_wp2
      go_ret
      exact ⟨ret_bool (by simp [H.out]), Below.refl _ _⟩
    · obtain ⟨b1, o1, rfl, hl1, hc1⟩ := ha.at_ hp
      obtain ⟨b2, o2, rfl, hl2, hc2⟩ := hb.at_ hp
      have HL := Lib.hid hlen
      have HA := Lib.hid ha.1
      have H1 := Lib.hid hc1
      have H2 := Lib.hid hc2
      clear hc1 hc2 ha hb hlen
      go_enter Try.func17, Try.ntmps17
      go_wp2
      go_loopw [5] (fun i wr => ∃ k q : Nat, k ≤ n ∧ i = .int .i64 k ∧ wr = w.drewN q ∧ Hid (∀ j, j < k → gi a j = gi b j)) (fun i _ => n - (intOf i).toNat)
      case atStart => exact ⟨0, 0, Nat.zero_le _, rfl, rfl, Lib.hid (fun j hj => absurd hj (by omega))⟩
      case round =>
        obtain ⟨k, q, hk, rfl, rfl, hj⟩ := hrel
        by_cases hlt : k < n
        · have hcell1 := H1.out k hlt
          have hcell2 := H2.out k hlt
          by_cases e : gi a k = gi b k
          · have e' : (gi a k != gi b k) = false := by simp [e]
            have E := Lib.hid e
            clear e
            go_wp2
            go_quiet (fail)
            go_wp2
            go_roundw
            case rel =>
              refine ⟨k + 1, _, by omega, by go_num, rfl, Lib.hid (fun j hj1 => ?_)⟩
              rcases Nat.lt_or_ge j k with h2 | h2
              · exact hj.out j h2
              · obtain rfl : j = k := by omega
                exact E.out
            case measure => simp [intOf]; omega
          · have e' : (gi a k != gi b k) = true := by simp [e]
            go_wp2
            go_quiet (fail)
            go_wp2
            go_ret
            refine ⟨ret_bool ?_, ?_⟩
            · have : ¬ a = b := by rintro rfl; exact e rfl
              simp [this]
            · exact (drewN_below _ _ _).trans (drewN_below _ _ _)
        · go_wp2
          go_ret
          refine ⟨ret_bool ?_, drewN_below _ _ _⟩
          have : a = b := Wl.eq_of_gi HL.out (fun j hj1 => hj.out j (by rw [HA.out] at hj1; omega))
          simp [this]
  · have hne : ((n : Int) != (m : Int)) = true := by simp; omega
    have hne2 : ¬ a = b := by
      rintro rfl; exact hnm (ha.1.symm.trans hb.1)
    have H := Lib.hid hne2
    clear hne2 ha hb
    go_enter Try.func17, Try.ntmps17
    go_wp2
    go_ret
    exact ⟨ret_bool (by simp [H.out]), Below.refl _ _⟩
end Go.Proofs.Ythliphpcfnbmnaa
