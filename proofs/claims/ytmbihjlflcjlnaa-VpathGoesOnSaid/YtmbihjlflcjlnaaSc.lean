/- Contracts of the reference's kind, Start, Exit. -/
import Derived.Test.YtmbihjlflcjlnaaSa
import Derived.Test.YtmbihjlflcjlnaaSb
namespace Go.Proofs.Ytmbihjlflcjlnaa
open Go.RowKit Go.Df
attribute [local go_sem ↓] Go.wp_at_zero Go.wp_at_succ

set_option maxHeartbeats 1000000 in
theorem kind_any (A1 A2 : Option Addr) (n1 c1 n2 c2 : Nat) (mn f k : Int) (ns : List Sp.Nd) (w : World) (hn : Nds w A1 n1 ns) (hs : n1 ≤ 1000000) :
    Calls Try.prog 46 #[.agg #[.slice A1 n1 c1, .slice A2 n2 c2, .int .i64 mn], .int .i64 f, .int .i64 k] w fun e w' => e = .returned (.int .i64 (Sp.kindAt ns f k)) ∧ Below w.heap.size w w' := by
  have HN := Lib.hid hn
  have HL := Lib.hid hn.1
  clear hn
  go_enter Try.func46, Try.ntmps46
  go_upto_region 1 with fail
  refine wp_named (fun W => ∃ b0, w.heap.size = b0 ∧ Blk W b0 [.slice A1 n1 c1, .slice A2 n2 c2, .int .i64 mn] ∧ Below w.heap.size w W) ⟨_, rfl, ?_, ?_⟩ ?_
  · exact Blk.new _ _ _ _ (by first | rfl | simp)
  · go_grown
  rintro W ⟨b0, e0, B0, hB⟩
  rw [e0]
  have G0 : w.heap.size ≤ b0 := by omega
  clear e0
  have ⟨L0, C0, F0⟩ := B0
  go_wp2_with fail
  go_loop [7] (fun i => ∃ j : Nat, j ≤ n1 ∧ i = .int .i64 j ∧ Hid (∀ x, x < j → ((gn ns x).f == f && (gn ns x).k == k) = false)) (fun i => n1 - (intOf i).toNat)
  case atStart => exact ⟨0, Nat.zero_le _, rfl, Lib.hid (fun j hj => absurd hj (by omega))⟩
  case round =>
    obtain ⟨j, hj, rfl, hno⟩ := hrel
    by_cases hlt : j < n1
    · obtain ⟨b, o, rfl, hl, hc⟩ := HN.out.2 (by omega)
      obtain ⟨h1, h2, h3⟩ := hc j hlt
      have hW : Hid (b < w.heap.size) := Lib.hid hl
      have g1 : W.cell? ⟨b, o + j * 3, none⟩ = some (.int .i64 (gn ns j).f) := (hB.cell (p := ⟨b, _, none⟩) hl).trans h1
      have g2 : W.cell? ⟨b, o + j * 3 + 1, none⟩ = some (.int .i64 (gn ns j).k) := (hB.cell (p := ⟨b, _, none⟩) hl).trans h2
      clear hc h1 h2 h3 hl
      by_cases e1 : (gn ns j).f = f
      · have e1' : ((gn ns j).f == f) = true := by simpa using e1
        by_cases e2 : (gn ns j).k = k
        · have e2' : ((gn ns j).k == k) = true := by simpa using e2
          have hh : Hid (Sp.kindAt ns f k = j) := Lib.hid (Sp.kind_hit hno.out (by rw [HL.out]; exact hlt) (by simp [e1', e2']))
          clear e1 e2
          go_wp2_with fail
          go_ret
          exact ⟨ret_int hh.out.symm, hB⟩
        · have e2' : ((gn ns j).k == k) = false := by simpa using e2
          have hno' : Hid (∀ x, x < j + 1 → ((gn ns x).f == f && (gn ns x).k == k) = false) := fun x hx => by
            rcases Nat.lt_or_ge x j with h9 | h9
            · exact hno.out x h9
            · obtain rfl : x = j := by omega
              rw [e2', Bool.and_false]
          clear e1 e2
          go_wp2_with fail
          exact ⟨⟨j + 1, by omega, by go_num, hno'⟩, by simp [intOf]; omega⟩
      · have e1' : ((gn ns j).f == f) = false := by simpa using e1
        have hno' : Hid (∀ x, x < j + 1 → ((gn ns x).f == f && (gn ns x).k == k) = false) := fun x hx => by
          rcases Nat.lt_or_ge x j with h9 | h9
          · exact hno.out x h9
          · obtain rfl : x = j := by omega
            rw [e1', Bool.false_and]
        clear e1
        go_wp2_with fail
        exact ⟨⟨j + 1, by omega, by go_num, hno'⟩, by simp [intOf]; omega⟩
    · go_wp2_with fail
      go_ret
      exact ⟨ret_int (Sp.kind_miss (fun x hx => hno.out x (by rw [HL.out] at hx; omega))).symm, hB⟩
end Go.Proofs.Ytmbihjlflcjlnaa
