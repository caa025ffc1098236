/- The contract of Without. -/
import Derived.Test.YthliphpcfnbmnaaC
namespace Go.Proofs.Ythliphpcfnbmnaa
open Go.RowKit Go.Df
theorem int_info : (Try.prog.info? 3).map (fun i => (i.zero, i.size, i.bytes)) = some (some (.int .i64 0), 1, 8) := by kernel_rfl

set_option maxHeartbeats 1000000 in
theorem without_any (A : Option Addr) (n c : Nat) (l : List Int) (x : Int) (w : World) (hr : Ints w A n l) (hn : n ≤ 1000000) :
    Calls Try.prog 12 #[.slice A n c, .int .i64 x] w fun e w' => ∃ v, e = .returned v ∧ w'.ownsRow w.heap.size 3 1 v (Wl.without l x).length ((Wl.without l x).map (Value.int .i64)) ∧ Below w.heap.size w w' := by
  obtain ⟨i0, hi, hz0, hz1, hz2⟩ := info_parts int_info
  have HR := Lib.hid hr
  have HL := Lib.hid hr.1
  clear hr
  go_enter Try.func12, Try.ntmps12
  go_wp2
  go_loopw [5, 6] (fun v i wr => ∃ k : Nat, k ≤ n ∧ i = .int .i64 k ∧ wr.ownsRow w.heap.size 3 1 v (Wl.wo l x k).length ((Wl.wo l x k).map (Value.int .i64)) ∧ Below w.heap.size w wr) (fun _ i _ => n - (intOf i).toNat)
  case atStart => exact ⟨0, Nat.zero_le _, rfl, ⟨by simp [Wl.wo], .inl ⟨rfl, by simp [Wl.wo]⟩⟩, Below.refl _ _⟩
  case round =>
    obtain ⟨k, hk, rfl, hown, hB⟩ := hrel
    by_cases hlt : k < n
    · obtain ⟨b, o, rfl, hl, hc⟩ := HR.out.at_ (by omega)
      have hcell : wr.cell? ⟨b, o + k, none⟩ = some (.int .i64 (gi l k)) := (hB.cell (p := ⟨b, o + k, none⟩) hl).trans (hc k hlt)
      clear hc
      have hle := Wl.wo_le l x k
      by_cases e : (gi l k != x) = true
      · go_wp2_with (at_builtin; refine wpList_append_own _ rfl _ _ 22 rfl w.heap.size 3 i0 (.int .i64 0) 1 8 Try.underlying22 hi hz0 hz1 hz2 rfl (by decide) _ _ _ rfl (hown.alloc _) ⟨wr.heap.size, 0, none⟩ 1 1 [.int .i64 (gi l k)] rfl rfl ?c1 ?c2 ?c3 ?c4 ?c5 ?_)
        case c1 => exact cell_one_new _ _ _
        case c2 => intro u hu; simp at hu; subst hu; rfl
        case c3 => unfold maxLen; omega
        case c4 => omega
        case c5 => have := hB.size; simp; omega
        intro v' w1 hown1 hgrow _
        have hB1 : Below w.heap.size w w1 := (hB.alloc hB.size _).grown hgrow (by have := hB.size; simp; omega) (fun g hg => own_ge hown hg)
        have e2 := Wl.wo_keep (by rw [HL.out]; exact hlt) e
        have hown2 : w1.ownsRow w.heap.size 3 1 v' (Wl.wo l x (k + 1)).length ((Wl.wo l x (k + 1)).map (Value.int .i64)) := by
          rw [e2]; simpa using hown1
        clear hown1 e2 hgrow hown hB hcell
        go_wp2
        go_roundw
        case rel => exact ⟨k + 1, by omega, by go_num, hown2, hB1⟩
        case measure => simp [intOf]; omega
      · have e1 : (gi l k != x) = false := by simpa using e
        have e2 := Lib.hid (Wl.wo_drop (by rw [HL.out]; exact hlt) e1)
        clear e
        go_wp2
        go_roundw
        case rel => exact ⟨k + 1, by omega, by go_num, by rw [e2.out]; exact hown, hB⟩
        case measure => simp [intOf]; omega
    · go_wp2
      go_ret
      have e2 := Wl.wo_all (l := l) (x := x) (k := k) (by rw [HL.out]; omega)
      rw [e2] at hown
      exact ⟨_, rfl, hown, hB⟩
end Go.Proofs.Ythliphpcfnbmnaa
