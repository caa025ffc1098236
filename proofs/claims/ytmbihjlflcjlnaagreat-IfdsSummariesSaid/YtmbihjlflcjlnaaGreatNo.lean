/- The contract of the program's super.Exit: slices.IndexFunc over the nodes. -/
import Derived.Test.YtmbihjlflcjlnaaGreatSc
import Derived.Test.YtmbihjlflcjlnaaGreatSd
import Derived.Test.YtmbihjlflcjlnaaGreatKl
namespace Go.Proofs.YtmbihjlflcjlnaaGreat
open Go.RowKit Go.Df
attribute [local go_sem ↓] Go.wp_at_zero Go.wp_at_succ

set_option maxRecDepth 100000 in
set_option maxHeartbeats 1000000 in
theorem findc_any (bf bk : Nat) (f k nf nk ni : Int) (v : Bool) (hv : (nf == f && nk == k) = v) (w : World) (hf : Blk w bf [.int .i64 f]) (hk : Blk w bk [.int .i64 k]) :
    Calls Tryz.prog 117 #[.agg #[.int .i64 nf, .int .i64 nk, .int .i64 ni], .pointer (some ⟨bf, 0, none⟩), .pointer (some ⟨bk, 0, none⟩)] w fun e w' => e = .returned (.bool v) ∧ Below w.heap.size w w' := by
  have HF := Lib.hid hf
  have HK := Lib.hid hk
  have HV := Lib.hid hv
  clear hf hk hv
  go_enter Tryz.func117, Tryz.ntmps117
  go_upto_region 1 with fail
  refine wp_named (fun W => ∃ b0, w.heap.size = b0 ∧ Blk W b0 [.int .i64 nf, .int .i64 nk, .int .i64 ni] ∧ Below w.heap.size w W) ⟨_, rfl, ?_, ?_⟩ ?_
  · exact Blk.new _ _ _ _ (by first | rfl | simp)
  · go_grown
  rintro W ⟨b0, e0, B0, hB⟩
  rw [e0]
  have G0 : w.heap.size ≤ b0 := by omega
  clear e0
  have ⟨L0, C0, F0⟩ := B0
  have hkW : Kept [] w W := (Kept.refl _ _).call hB
  have ⟨LF, CF, FF⟩ := hkW.blk (by simp) HF.out
  have ⟨LK, CK, FK⟩ := hkW.blk (by simp) HK.out
  by_cases e1 : nf = f
  · have e1' : (nf == f) = true := by simpa using e1
    by_cases e2 : nk = k
    · have e2' : (nk == k) = true := by simpa using e2
      have hh : Hid (v = true) := Lib.hid (by rw [← HV.out, e1', e2']; rfl)
      clear e1 e2
      go_wp2_with fail
      go_ret
      exact ⟨by rw [hh.out]; rfl, hB⟩
    · have e2' : (nk == k) = false := by simpa using e2
      have hh : Hid (v = false) := Lib.hid (by rw [← HV.out, e2', Bool.and_false])
      clear e1 e2
      go_wp2_with fail
      go_ret
      exact ⟨by rw [hh.out]; rfl, hB⟩
  · have e1' : (nf == f) = false := by simpa using e1
    have hh : Hid (v = false) := Lib.hid (by rw [← HV.out, e1', Bool.false_and])
    clear e1
    go_wp2_with fail
    go_ret
    exact ⟨by rw [hh.out]; rfl, hB⟩

set_option maxRecDepth 100000 in
set_option maxHeartbeats 1000000 in
theorem indexf_any (A1 : Option Addr) (n1 c1 bf bk : Nat) (f k : Int) (ns : List Sp.Nd) (w : World) (hn : Nds w A1 n1 ns) (hs : n1 ≤ 1000000) (hf : Blk w bf [.int .i64 f]) (hk : Blk w bk [.int .i64 k]) :
    Calls Tryz.prog 116 #[.slice A1 n1 c1, .func (.func 117) #[] #[.pointer (some ⟨bf, 0, none⟩), .pointer (some ⟨bk, 0, none⟩)]] w fun e w' => e = .returned (.int .i64 (Sp.kindAt ns f k)) ∧ Below w.heap.size w w' := by
  have HN := Lib.hid hn
  have HL := Lib.hid hn.1
  have HF := Lib.hid hf
  have HK := Lib.hid hk
  clear hn hf hk
  go_enter Tryz.func116, Tryz.ntmps116
  go_wp2_with fail
  go_loopw [8] (fun s8 wr => ∃ j : Nat, j ≤ n1 ∧ s8 = .int .i64 j ∧ Kept [] w wr ∧ Hid (∀ x, x < j → ((gn ns x).f == f && (gn ns x).k == k) = false)) (fun s8 _ => n1 - (intOf s8).toNat)
  case atStart => exact ⟨0, Nat.zero_le _, rfl, Kept.refl _ _, Lib.hid (fun j hj => absurd hj (by omega))⟩
  case round =>
  obtain ⟨j, hj, rfl, hkr, hno⟩ := hrel
  by_cases hlt : j < n1
  case neg =>
    go_wp2_with fail
    go_ret
    exact ⟨ret_int (Sp.kind_miss (fun x hx => hno.out x (by rw [HL.out] at hx; omega))).symm, hkr.toBelow⟩
  obtain ⟨b, o, rfl, hl, hc⟩ := HN.out.2 (by omega)
  obtain ⟨h1, h2, h3⟩ := hc j hlt
  obtain ⟨nf, nk, ni, en⟩ : ∃ nf nk ni, gn ns j = ⟨nf, nk, ni⟩ := ⟨_, _, _, rfl⟩
  rw [en] at h1 h2 h3
  have g1 := (hkr.cell b _ hl (by simp)).trans h1
  have g2 := (hkr.cell b _ hl (by simp)).trans h2
  have g3 := (hkr.cell b _ hl (by simp)).trans h3
  have hlr : b < wr.heap.size := Nat.lt_of_lt_of_le hl hkr.size
  have hj9 : (j : Int) < (n1 : Int) := by omega
  have HEN := Lib.hid en
  obtain ⟨v, hv⟩ : ∃ v, (nf == f && nk == k) = v := ⟨_, rfl⟩
  have HV := Lib.hid hv
  clear hc h1 h2 h3 en hv
  cases v with
  | true =>
    have hh : Hid (Sp.kindAt ns f k = j) := Lib.hid (Sp.kind_hit hno.out (by rw [HL.out]; exact hlt) (by rw [HEN.out]; exact HV.out))
    go_wp2_with (go_at_call 117; refine (findc_any bf bk f k nf nk ni true HV.out _ (hkr.blk (by simp) HF.out) (hkr.blk (by simp) HK.out)).mono ?_; rintro e w3 ⟨rfl, hb3⟩)
    go_ret
    exact ⟨ret_int hh.out.symm, (hkr.call hb3).toBelow⟩
  | false =>
    have hno' : Hid (∀ x, x < j + 1 → ((gn ns x).f == f && (gn ns x).k == k) = false) := fun x hx => by
      rcases Nat.lt_or_ge x j with h9 | h9
      · exact hno.out x h9
      · obtain rfl : x = j := by omega
        rw [HEN.out]
        exact HV.out
    go_wp2_with (go_at_call 117; refine (findc_any bf bk f k nf nk ni false HV.out _ (hkr.blk (by simp) HF.out) (hkr.blk (by simp) HK.out)).mono ?_; rintro e w3 ⟨rfl, hb3⟩)
    exact ⟨⟨j + 1, by omega, by go_num, hkr.call hb3, hno'⟩, by simp [intOf]; omega⟩

set_option maxRecDepth 100000 in
set_option maxHeartbeats 1000000 in
theorem find_any (A1 A2 : Option Addr) (n1 c1 n2 c2 : Nat) (mn f k : Int) (ns : List Sp.Nd) (w : World) (hn : Nds w A1 n1 ns) (hs : n1 ≤ 1000000) :
    Calls Tryz.prog 69 #[.agg #[.slice A1 n1 c1, .slice A2 n2 c2, .int .i64 mn], .int .i64 f, .int .i64 k] w fun e w' => e = .returned (.int .i64 (Sp.kindAt ns f k)) ∧ Below w.heap.size w w' := by
  have HN := Lib.hid hn
  clear hn
  go_enter Tryz.func69, Tryz.ntmps69
  go_upto_region 1 with fail
  refine wp_named (fun W => ∃ b0 b1 b2, w.heap.size = b0 ∧ w.heap.size + 1 = b1 ∧ w.heap.size + 1 + 1 = b2 ∧ Blk W b0 [.slice A1 n1 c1, .slice A2 n2 c2, .int .i64 mn] ∧ Blk W b1 [.int .i64 f] ∧ Blk W b2 [.int .i64 k] ∧ Below w.heap.size w W) ⟨_, _, _, rfl, rfl, rfl, ?_, ?_, ?_, ?_⟩ ?_
  · exact ((Blk.new _ _ _ _ (by first | rfl | simp)).alloc _).alloc _
  · exact (Blk.new _ _ _ _ (by first | rfl | simp)).alloc _
  · exact Blk.new _ _ _ _ (by first | rfl | simp)
  · go_grown
  rintro W ⟨b0, b1, b2, e0, e1, e2, B0, B1, B2, hB⟩
  rw [e2, e1, e0]
  have G0 : w.heap.size ≤ b0 := by omega
  have n01 : b0 ≠ b1 := by omega
  have n02 : b0 ≠ b2 := by omega
  have G1 : w.heap.size ≤ b1 := by omega
  have n10 : b1 ≠ b0 := by omega
  have n12 : b1 ≠ b2 := by omega
  have G2 : w.heap.size ≤ b2 := by omega
  have n20 : b2 ≠ b0 := by omega
  have n21 : b2 ≠ b1 := by omega
  clear e0 e1 e2
  have ⟨L0, C0, F0⟩ := B0
  have ⟨L1, C1, F1⟩ := B1
  have ⟨L2, C2, F2⟩ := B2
  go_wp2_with (go_at_call 116; refine (indexf_any A1 n1 c1 b1 b2 f k ns _ (HN.out.later hB) hs B1 B2).mono ?_; rintro e w3 ⟨rfl, hb3⟩)
  go_ret
  exact ⟨rfl, hB.trans (hb3.mono hB.size)⟩

set_option maxRecDepth 100000 in
set_option maxHeartbeats 1000000 in
theorem pexit_any (A1 A2 : Option Addr) (n1 c1 n2 c2 : Nat) (mn f : Int) (ns : List Sp.Nd) (w : World) (hn : Nds w A1 n1 ns) (hs : n1 ≤ 1000000) :
    Calls Tryz.prog 33 #[.agg #[.slice A1 n1 c1, .slice A2 n2 c2, .int .i64 mn], .int .i64 f] w fun e w' => e = .returned (.tuple #[.int .i64 (Sp.kindAt ns f 3), .int .i64 (Sp.kindAt ns f 4)]) ∧ Below w.heap.size w w' := by
  have HN := Lib.hid hn
  clear hn
  go_enter Tryz.func33, Tryz.ntmps33
  go_upto_region 1 with fail
  refine wp_named (fun W => ∃ b0, w.heap.size = b0 ∧ Blk W b0 [.slice A1 n1 c1, .slice A2 n2 c2, .int .i64 mn] ∧ Below w.heap.size w W) ⟨_, rfl, ?_, ?_⟩ ?_
  · exact Blk.new _ _ _ _ (by first | rfl | simp)
  · go_grown
  rintro W ⟨b0, e0, B0, hB⟩
  rw [e0]
  have G0 : w.heap.size ≤ b0 := by omega
  clear e0
  have ⟨L0, C0, F0⟩ := B0
  have hkW : Kept [] w W := (Kept.refl _ _).call hB
  go_upto_region 1 with fail
  refine wp_region_E 7 (fun w' => SX0 W w') (by kernel_rfl) (by (repeat' first | (with_reducible assumption) | (with_reducible exact SX0.init _) | (with_reducible exact SX0.refl _) | (with_reducible refine SX0.alloc ?_ _) | (with_reducible refine SX0.call ?_ (by assumption)) | (with_reducible refine SX0.set ?_ _ _ _ ?_) | (with_reducible refine SX0.drew ?_) | (simp; done) | omega | (simp; omega))) (fun hHeld => ?_)
  refine WE_take 0 (v := ?_) rfl (by kernel_rfl) (fun _ _ _ h => h) (Or.inl ⟨by rfl, ?_⟩) (by assumption) ?_; rotate_left; (· intro w9 hSw; (try dsimp only at hSw); go_simp; try with_reducible rfl); (try simp only [Act.put, List.setIfInBounds_toArray, List.set_cons_zero, List.set_cons_succ])
  refine WE_take 1 (v := ?_) rfl (by kernel_rfl) (fun _ _ _ h => h) (Or.inl ⟨by rfl, ?_⟩) (by assumption) ?_; rotate_left; (· intro w9 hSw; (try dsimp only at hSw); go_simp; try with_reducible rfl); (try simp only [Act.put, List.setIfInBounds_toArray, List.set_cons_zero, List.set_cons_succ])
  refine WE_take 3 (v := ?_) rfl (by kernel_rfl) (fun _ _ _ h => h) (Or.inl ⟨by rfl, ?_⟩) (by assumption) ?_; rotate_left; (· intro w9 hSw; (try dsimp only at hSw); go_simp; try with_reducible rfl); (try simp only [Act.put, List.setIfInBounds_toArray, List.set_cons_zero, List.set_cons_succ])
  refine WE_take 4 (v := ?_) rfl (by kernel_rfl) (fun _ _ _ h => h) (Or.inl ⟨by rfl, ?_⟩) (by assumption) ?_; rotate_left; (· intro w9 hSw; (try dsimp only at hSw); go_simp; try with_reducible rfl); (try simp only [Act.put, List.setIfInBounds_toArray, List.set_cons_zero, List.set_cons_succ])
  refine WE_step 2 rfl (by kernel_rfl) (fun K hK => ?_)
  go_simp
  (first | (go_at_call 69; with_reducible refine (find_any A1 A2 n1 c1 n2 c2 mn f 3 ns _ (HN.out.later (keptTrans hkW hHeld.1).toBelow) hs).mono ?_; rintro e w3 ⟨rfl, hb3⟩) | (go_at_call 69; with_reducible refine (find_any A1 A2 n1 c1 n2 c2 mn f 4 ns _ (HN.out.later (keptTrans hkW hHeld.1).toBelow) hs).mono ?_; rintro e w4 ⟨rfl, hb4⟩))
  (try go_wp2_with fail)
  refine hK.out _ _ ?_ (fun hHeld => ?_)
  · (repeat' first | (with_reducible assumption) | (with_reducible exact SX0.init _) | (with_reducible exact SX0.refl _) | (with_reducible refine SX0.alloc ?_ _) | (with_reducible refine SX0.call ?_ (by assumption)) | (with_reducible refine SX0.set ?_ _ _ _ ?_) | (with_reducible refine SX0.drew ?_) | (simp; done) | omega | (simp; omega))
  clear hK K
  try simp only [Act.put, List.setIfInBounds_toArray, List.set_cons_zero, List.set_cons_succ]
  refine WE_step 5 rfl (by kernel_rfl) (fun K hK => ?_)
  go_simp
  (first | (go_at_call 69; with_reducible refine (find_any A1 A2 n1 c1 n2 c2 mn f 3 ns _ (HN.out.later (keptTrans hkW hHeld.1).toBelow) hs).mono ?_; rintro e w3 ⟨rfl, hb3⟩) | (go_at_call 69; with_reducible refine (find_any A1 A2 n1 c1 n2 c2 mn f 4 ns _ (HN.out.later (keptTrans hkW hHeld.1).toBelow) hs).mono ?_; rintro e w4 ⟨rfl, hb4⟩))
  (try go_wp2_with fail)
  refine hK.out _ _ ?_ (fun hHeld => ?_)
  · (repeat' first | (with_reducible assumption) | (with_reducible exact SX0.init _) | (with_reducible exact SX0.refl _) | (with_reducible refine SX0.alloc ?_ _) | (with_reducible refine SX0.call ?_ (by assumption)) | (with_reducible refine SX0.set ?_ _ _ _ ?_) | (with_reducible refine SX0.drew ?_) | (simp; done) | omega | (simp; omega))
  clear hK K
  try simp only [Act.put, List.setIfInBounds_toArray, List.set_cons_zero, List.set_cons_succ]
  refine WE_take 6 (v := ?_) rfl (by kernel_rfl) (fun _ _ _ h => h) (Or.inl ⟨by rfl, ?_⟩) (by assumption) ?_; rotate_left; (· intro w9 hSw; (try dsimp only at hSw); go_simp; try with_reducible rfl); (try simp only [Act.put, List.setIfInBounds_toArray, List.set_cons_zero, List.set_cons_succ])
  refine WE_last rfl (by kernel_rfl) (fun K hK => ?_)
  go_simp
  refine hK.out _ _ ?_
  clear hK K
  have hk4 : Kept [] W w4 := hHeld.1
  go_wp2_with fail
  go_ret2
  exact ⟨rfl, (keptTrans hkW hk4).toBelow⟩
end Go.Proofs.YtmbihjlflcjlnaaGreat
