/- The contracts of both Outs. -/
import Derived.Test.YtmjebjjhfoncfaaVe
namespace Go.Df.Sp
/-- The edges from x among the first j. -/
def outS (es : List Ed) (x : Int) : Nat → List Int
  | 0 => []
  | j + 1 => if (ge es j).a = x then outS es x j ++ [(j : Int)] else outS es x j
theorem outS_len (es : List Ed) (x : Int) : ∀ j, (outS es x j).length ≤ j
  | 0 => Nat.le_refl _
  | j + 1 => by
    unfold outS
    have := outS_len es x j
    split
    · simp; omega
    · omega
end Go.Df.Sp
namespace Go.Proofs.Ytmjebjjhfoncfaa
open Go.RowKit Go.Df
attribute [local go_sem ↓] Go.wp_at_zero Go.wp_at_succ

set_option maxRecDepth 100000 in
set_option maxHeartbeats 1000000 in
theorem pout_any (A1 A2 : Option Addr) (n1 c1 n2 c2 : Nat) (mn x : Int) (es : List Sp.Ed) (w : World) (he : Eds w A2 n2 es) (hs : n2 ≤ 1000000) :
    Calls Try.prog 40 #[.agg #[.slice A1 n1 c1, .slice A2 n2 c2, .int .i64 mn], .int .i64 x] w fun e w' => ∃ A n c, e = .returned (.slice A n c) ∧ SIn w' A n c (Sp.outS es x n2) ∧ n ≤ n2 ∧ Below w.heap.size w w' := by
  obtain ⟨i0, hi, hz0, hz1, hz2⟩ := info_parts int_info
  have HE := Lib.hid he
  clear he
  go_enter Try.func40, Try.ntmps40
  go_upto_region 1 with fail
  refine wp_named (fun W => ∃ b0, w.heap.size = b0 ∧ Blk W b0 [.slice A1 n1 c1, .slice A2 n2 c2, .int .i64 mn] ∧ Below w.heap.size w W) ⟨_, rfl, ?_, ?_⟩ ?_
  · exact Blk.new _ _ _ _ (by first | rfl | simp)
  · go_grown
  rintro W ⟨b0, e0, B0, hB⟩
  rw [e0]
  have G0 : w.heap.size ≤ b0 := by omega
  clear e0
  have ⟨L0, C0, F0⟩ := B0
  go_wp2_with fail
  go_loopw [5, 11] (fun s5 s6 wr => ∃ (j N : Nat) (A : Option Addr) (c : Nat), j ≤ n2 ∧ s5 = .slice A N c ∧ s6 = .int .i64 j ∧ Kept [] W wr ∧ Hid (wr.ownsRow W.heap.size 3 1 (.slice A N c) N ((Sp.outS es x j).map (Value.int .i64)))) (fun _ i _ => n2 - (intOf i).toNat)
  case atStart => exact ⟨0, 0, none, 0, Nat.zero_le _, rfl, rfl, Kept.refl _ _, Lib.hid (World.ownsRow_nil _ _ _ _)⟩
  case round =>
    obtain ⟨j, N, A, c, hj, rfl, rfl, hkr, own⟩ := hrel
    have HN : Hid ((Sp.outS es x j).length = N) := by show _ = _; have := own.out.1; simpa using this
    have hNj : N ≤ j := by have := HN.out; have := Sp.outS_len es x j; omega
    have hBr := hkr.below hB hB.size (by simp)
    have ⟨LR, CR, FR⟩ := hkr.blk (by simp) B0
    have hsz := hkr.size
    clear C0 F0
    by_cases hlt : j < n2
    · obtain ⟨b, o, rfl, hl, hc⟩ := (HE.out.later hBr).2 (by omega)
      obtain ⟨h1, h2, h3, h4⟩ := hc j hlt
      clear hc
      obtain ⟨ea, eb, ek, ec, en⟩ : ∃ ea eb ek ec, ge es j = ⟨ea, eb, ek, ec⟩ := ⟨_, _, _, _, rfl⟩
      rw [en] at h1 h2 h3 h4
      have HEe := Lib.hid en
      clear en
      go_upto_region 5 with fail
      refine wp_named (fun V => ∃ g, wr.heap.size = g ∧ Blk V g [.int .i64 ea, .int .i64 eb, .int .i64 ek, .int .i64 ec] ∧ Kept [] wr V) ⟨_, rfl, Blk.new _ _ _ _ rfl, (Kept.refl _ _).alloc _⟩ ?_
      rintro V ⟨g, eg, Bg, hkV⟩
      rw [eg]
      have ⟨LG, CG, FG⟩ := Bg
      have hkW : Kept [] W V := keptTrans hkr hkV
      have ownV := Lib.hid (own_keptX own.out hkV (by simp))
      have hsV := hkW.size
      clear CR FR h1 h2 h3 h4 eg
      by_cases e1 : ea = x
      · have e1' : (ea == x) = true := by simpa using e1
        have HAP : Hid ((Sp.outS es x j).map (Value.int .i64) ++ [.int .i64 (j : Int)] = (Sp.outS es x (j + 1)).map (Value.int .i64)) := by
          show _ = _
          rw [Sp.outS, HEe.out, if_pos e1, List.map_append]
          rfl
        clear e1
        go_wp2_with (first | (at_builtin; refine wpList_append_rd _ rfl _ _ 26 rfl W.heap.size 3 i0 (.int .i64 0) 1 8 Try.underlying26 hi hz0 hz1 hz2 rfl (by decide) (.slice A N c) N ((Sp.outS es x j).map (Value.int .i64)) rfl (own_alloc ownV.out _) (some ⟨V.heap.size, 0, none⟩) 1 1 [.int .i64 (j : Int)] rfl (Rd.new1 _ _ _ _ rfl) (fun h => by cases h) (by intro u hu; simp at hu; subst hu; rfl) (N + 1) rfl ((Sp.outS es x (j + 1)).map (Value.int .i64)) HAP.out (by unfold maxLen; omega) (by omega) (by simp; omega) ?_; intro A9 c9 w4 hown4 hk4 hat4; have HX : Hid (∀ y ∈ (Value.slice A N c).ownBlock.toList, W.heap.size ≤ y) := (fun y hy => own_ge ownV.out (by simpa using hy)); have hk5 := Lib.hid ((hkW.alloc (.cells #[.int .i64 (j : Int)] 3)).next hk4 (fun y hy => Or.inr (HX.out y hy))); have HO4 := Lib.hid hown4; clear hown4 hk4 hat4))
        exact ⟨⟨j + 1, N + 1, A9, c9, by omega, rfl, by go_num, hk5.out, HO4⟩, by simp [intOf]; omega⟩
      · have e1' : (ea == x) = false := by simpa using e1
        have HAP : Hid (Sp.outS es x (j + 1) = Sp.outS es x j) := by
          show _ = _
          rw [Sp.outS, HEe.out, if_neg e1]
        clear e1
        go_wp2_with fail
        exact ⟨⟨j + 1, N, A, c, by omega, rfl, by go_num, hkW, Lib.hid (by rw [HAP.out]; exact ownV.out)⟩, by simp [intOf]; omega⟩
    · obtain rfl : j = n2 := by omega
      obtain ⟨A', c', hv', hin, -⟩ := SIn.of_own own.out
      injection hv' with e1 e2 e3
      subst e1
      subst e3
      have HIN := Lib.hid hin
      clear hin hlt
      go_wp2_with fail
      go_ret
      exact ⟨A, N, c, rfl, HIN.out, hNj, hBr⟩

set_option maxRecDepth 100000 in
set_option maxHeartbeats 1000000 in
theorem rout_any (A1 A2 : Option Addr) (n1 c1 n2 c2 : Nat) (mn x : Int) (es : List Sp.Ed) (w : World) (he : Eds w A2 n2 es) (hs : n2 ≤ 1000000) :
    Calls Try.prog 64 #[.agg #[.slice A1 n1 c1, .slice A2 n2 c2, .int .i64 mn], .int .i64 x] w fun e w' => ∃ A n c, e = .returned (.slice A n c) ∧ SIn w' A n c (Sp.outS es x n2) ∧ n ≤ n2 ∧ Below w.heap.size w w' := by
  obtain ⟨i0, hi, hz0, hz1, hz2⟩ := info_parts int_info
  have HE := Lib.hid he
  clear he
  go_enter Try.func64, Try.ntmps64
  go_upto_region 1 with fail
  refine wp_named (fun W => ∃ b0, w.heap.size = b0 ∧ Blk W b0 [.slice A1 n1 c1, .slice A2 n2 c2, .int .i64 mn] ∧ Below w.heap.size w W) ⟨_, rfl, ?_, ?_⟩ ?_
  · exact Blk.new _ _ _ _ (by first | rfl | simp)
  · go_grown
  rintro W ⟨b0, e0, B0, hB⟩
  rw [e0]
  have G0 : w.heap.size ≤ b0 := by omega
  clear e0
  have ⟨L0, C0, F0⟩ := B0
  go_wp2_with fail
  go_loopw [5, 6] (fun s5 s6 wr => ∃ (j N : Nat) (A : Option Addr) (c : Nat), j ≤ n2 ∧ s5 = .slice A N c ∧ s6 = .int .i64 j ∧ Kept [] W wr ∧ Hid (wr.ownsRow W.heap.size 3 1 (.slice A N c) N ((Sp.outS es x j).map (Value.int .i64)))) (fun _ i _ => n2 - (intOf i).toNat)
  case atStart => exact ⟨0, 0, none, 0, Nat.zero_le _, rfl, rfl, Kept.refl _ _, Lib.hid (World.ownsRow_nil _ _ _ _)⟩
  case round =>
    obtain ⟨j, N, A, c, hj, rfl, rfl, hkr, own⟩ := hrel
    have HN : Hid ((Sp.outS es x j).length = N) := by show _ = _; have := own.out.1; simpa using this
    have hNj : N ≤ j := by have := HN.out; have := Sp.outS_len es x j; omega
    have hBr := hkr.below hB hB.size (by simp)
    have ⟨LR, CR, FR⟩ := hkr.blk (by simp) B0
    have hsz := hkr.size
    clear C0 F0
    by_cases hlt : j < n2
    · obtain ⟨b, o, rfl, hl, hc⟩ := (HE.out.later hBr).2 (by omega)
      obtain ⟨h1, h2, h3, h4⟩ := hc j hlt
      clear hc
      obtain ⟨ea, eb, ek, ec, en⟩ : ∃ ea eb ek ec, ge es j = ⟨ea, eb, ek, ec⟩ := ⟨_, _, _, _, rfl⟩
      rw [en] at h1 h2 h3 h4
      have HEe := Lib.hid en
      clear en
      clear h2 h3 h4
      by_cases e1 : ea = x
      · have e1' : (ea == x) = true := by simpa using e1
        have HAP : Hid ((Sp.outS es x j).map (Value.int .i64) ++ [.int .i64 (j : Int)] = (Sp.outS es x (j + 1)).map (Value.int .i64)) := by
          show _ = _
          rw [Sp.outS, HEe.out, if_pos e1, List.map_append]
          rfl
        clear e1
        go_wp2_with (first | (at_builtin; refine wpList_append_rd _ rfl _ _ 26 rfl W.heap.size 3 i0 (.int .i64 0) 1 8 Try.underlying26 hi hz0 hz1 hz2 rfl (by decide) (.slice A N c) N ((Sp.outS es x j).map (Value.int .i64)) rfl (own_alloc own.out _) (some ⟨wr.heap.size, 0, none⟩) 1 1 [.int .i64 (j : Int)] rfl (Rd.new1 _ _ _ _ rfl) (fun h => by cases h) (by intro u hu; simp at hu; subst hu; rfl) (N + 1) rfl ((Sp.outS es x (j + 1)).map (Value.int .i64)) HAP.out (by unfold maxLen; omega) (by omega) (by simp; omega) ?_; intro A9 c9 w4 hown4 hk4 hat4; have HX : Hid (∀ y ∈ (Value.slice A N c).ownBlock.toList, W.heap.size ≤ y) := (fun y hy => own_ge own.out (by simpa using hy)); have hk5 := Lib.hid ((hkr.alloc (.cells #[.int .i64 (j : Int)] 3)).next hk4 (fun y hy => Or.inr (HX.out y hy))); have HO4 := Lib.hid hown4; clear hown4 hk4 hat4))
        exact ⟨⟨j + 1, N + 1, A9, c9, by omega, rfl, by go_num, hk5.out, HO4⟩, by simp [intOf]; omega⟩
      · have e1' : (ea == x) = false := by simpa using e1
        have HAP : Hid (Sp.outS es x (j + 1) = Sp.outS es x j) := by
          show _ = _
          rw [Sp.outS, HEe.out, if_neg e1]
        clear e1
        go_wp2_with fail
        exact ⟨⟨j + 1, N, A, c, by omega, rfl, by go_num, hkr, Lib.hid (by rw [HAP.out]; exact own.out)⟩, by simp [intOf]; omega⟩
    · obtain rfl : j = n2 := by omega
      obtain ⟨A', c', hv', hin, -⟩ := SIn.of_own own.out
      injection hv' with e1 e2 e3
      subst e1
      subst e3
      have HIN := Lib.hid hin
      clear hin hlt
      go_wp2_with fail
      go_ret
      exact ⟨A, N, c, rfl, HIN.out, hNj, hBr⟩
end Go.Proofs.Ytmjebjjhfoncfaa
