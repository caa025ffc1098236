/- Contracts of searches in and comparisons of slices. -/
import Derived.Test.YthliphpcfnbmnaaA
namespace Go.Proofs.Ythliphpcfnbmnaa
open Go.RowKit Go.Df

set_option maxHeartbeats 400000 in
theorem index_any (A : Option Addr) (n c : Nat) (l : List Int) (x : Int) (w : World) (hr : Ints w A n l) (hn : n ≤ 9223372036854775807) :
    Calls Try.prog 31 #[.slice A n c, .int .i64 x] w fun e w' => e = .returned (.int .i64 (Wl.index l x)) ∧ w = w' := by
  rcases Nat.eq_zero_or_pos n with rfl | hp
  · have h0 : l = [] := List.eq_nil_of_length_eq_zero hr.1
    have H := Lib.hid h0
    clear h0 hr
    go_enter Try.func31, Try.ntmps31
    go_wp2
    refine wp_loop_rounds 1 ?_
    rw [rounds_succ]
    go_wp2
    go_ret
    exact ⟨ret_int (by rw [H.out]; rfl), rfl⟩
  · obtain ⟨b, o, rfl, hl, hc⟩ := hr.at_ hp
    have HL := Lib.hid hr.1
    have HC := Lib.hid hc
    clear hc hr
    go_enter Try.func31, Try.ntmps31
    go_wp2
    go_loop [8] (fun i => ∃ k : Nat, k ≤ n ∧ i = .int .i64 k ∧ Hid (∀ j, j < k → gi l j ≠ x)) (fun i => n - (intOf i).toNat)
    case atStart => exact ⟨0, Nat.zero_le _, rfl, Lib.hid (fun j hj => absurd hj (by omega))⟩
    case round =>
      obtain ⟨k, hk, rfl, hj⟩ := hrel
      by_cases hlt : k < n
      · have hcell := HC.out k hlt
        go_wp2
        · go_ret
          refine ⟨ret_int (Wl.index_hit hj.out (by rw [HL.out]; exact hlt) ?_).symm, rfl⟩
          simp_all
        · go_round
          case rel =>
            refine ⟨k + 1, by omega, by go_num, Lib.hid (fun j hj1 => ?_)⟩
            rcases Nat.lt_or_ge j k with h2 | h2
            · exact hj.out j h2
            · obtain rfl : j = k := by omega
              intro e
              simp_all
          case measure => simp [intOf]; omega
      · go_wp2
        go_ret
        refine ⟨ret_int (Wl.index_miss (fun j hj1 => hj.out j (by rw [HL.out] at hj1; omega))).symm, rfl⟩

set_option maxHeartbeats 400000 in
theorem at_any (A : Option Addr) (n c : Nat) (l : List Int) (x : Int) (w : World) (hr : Ints w A n l) (hn : n ≤ 9223372036854775807) :
    Calls Try.prog 30 #[.slice A n c, .int .i64 x] w fun e w' => e = .returned (.int .i64 (Wl.index l x)) ∧ w = w' := by
  rcases Nat.eq_zero_or_pos n with rfl | hp
  · have h0 : l = [] := List.eq_nil_of_length_eq_zero hr.1
    have H := Lib.hid h0
    clear h0 hr
    go_enter Try.func30, Try.ntmps30
    go_wp2
    refine wp_loop_rounds 1 ?_
    rw [rounds_succ]
    go_wp2
    go_ret
    exact ⟨ret_int (by rw [H.out]; rfl), rfl⟩
  · obtain ⟨b, o, rfl, hl, hc⟩ := hr.at_ hp
    have HL := Lib.hid hr.1
    have HC := Lib.hid hc
    clear hc hr
    go_enter Try.func30, Try.ntmps30
    go_wp2
    go_loop [5] (fun i => ∃ k : Nat, k ≤ n ∧ i = .int .i64 k ∧ Hid (∀ j, j < k → gi l j ≠ x)) (fun i => n - (intOf i).toNat)
    case atStart => exact ⟨0, Nat.zero_le _, rfl, Lib.hid (fun j hj => absurd hj (by omega))⟩
    case round =>
      obtain ⟨k, hk, rfl, hj⟩ := hrel
      by_cases hlt : k < n
      · have hcell := HC.out k hlt
        go_wp2
        · go_ret
          refine ⟨ret_int (Wl.index_hit hj.out (by rw [HL.out]; exact hlt) ?_).symm, rfl⟩
          simp_all
        · go_round
          case rel =>
            refine ⟨k + 1, by omega, by go_num, Lib.hid (fun j hj1 => ?_)⟩
            rcases Nat.lt_or_ge j k with h2 | h2
            · exact hj.out j h2
            · obtain rfl : j = k := by omega
              intro e
              simp_all
          case measure => simp [intOf]; omega
      · go_wp2
        go_ret
        refine ⟨ret_int (Wl.index_miss (fun j hj1 => hj.out j (by rw [HL.out] at hj1; omega))).symm, rfl⟩

end Go.Proofs.Ythliphpcfnbmnaa
