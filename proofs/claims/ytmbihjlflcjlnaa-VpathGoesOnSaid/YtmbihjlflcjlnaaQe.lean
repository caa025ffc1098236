/- The contract of slices.Clone at []int. -/
import Derived.Test.YtmbihjlflcjlnaaSa
namespace Go.Proofs.Ytmbihjlflcjlnaa
open Go.RowKit Go.Df

set_option maxHeartbeats 1000000 in
theorem clone_any (A : Option Addr) (n c : Nat) (l : List Int) (w : World) (hr : Ints w A n l) (hn : n ≤ 1000000) (hA : A = none → n = 0) :
    Calls Try.prog 28 #[.slice A n c] w fun e w' => ∃ v, e = .returned v ∧ w'.ownsRow w.heap.size 3 1 v n (l.map (Value.int .i64)) ∧ Below w.heap.size w w' := by
  obtain ⟨i0, hi, hz0, hz1, hz2⟩ := info_parts int_info
  cases A with
  | none =>
    obtain rfl := hA rfl
    have h0 : l = [] := List.eq_nil_of_length_eq_zero hr.1
    subst h0
    clear hr hA
    have hq := fun w => Lib.run_eql_slice_nil (P := Try.prog) w 26 3 none 0 c 0 0 Try.underlying26
    go_enter Try.func28, Try.ntmps28
    go_wp2
    go_ret
    exact ⟨_, rfl, ⟨by simp, .inl ⟨rfl, rfl⟩⟩, Below.refl _ _⟩
  | some a =>
    have hq := fun w => Lib.run_eql_slice_nil (P := Try.prog) w 26 3 (some a) n c 0 0 Try.underlying26
    have HR := Lib.hid hr
    have HL := Lib.hid hr.1
    clear hr hA
    go_enter Try.func28, Try.ntmps28
    go_wp2_with (at_builtin; refine wpList_append_own _ rfl _ _ 26 rfl w.heap.size 3 i0 (.int .i64 0) 1 8 Try.underlying26 hi hz0 hz1 hz2 rfl (by decide) _ 0 [] rfl ?c0 a n c (l.map (Value.int .i64)) rfl ?cl ?c1 ?c2 ?c3 ?c4 ?c5 ?_)
    case c0 =>
      refine ⟨rfl, .inr ⟨w.heap.size, 0, #[], rfl, Nat.le_refl _, heap_alloc_new w _, Nat.le_refl _, Nat.zero_le _, rfl, rfl⟩⟩
    case cl => simp [HL.out]
    case c1 => exact (HR.out.later ((Below.refl _ _).alloc (Nat.le_refl _) _)).news
    case c2 => exact ints_one l
    case c3 => unfold maxLen; omega
    case c4 => omega
    case c5 => simp
    intro v' w1 hown1 hgrow _
    have hB1 : Below w.heap.size w w1 := ((Below.refl _ _).alloc (Nat.le_refl _) _).grown hgrow (by simp) (fun g hg => by simp [Value.ownBlock] at hg; omega)
    clear hgrow
    go_wp2
    go_ret
    exact ⟨_, rfl, hown1, hB1⟩
end Go.Proofs.Ytmbihjlflcjlnaa
