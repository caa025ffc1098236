/- The law ExplodedWithin; solutions that came in, with facts in range. (Printed by genXv.py.) -/
import Derived.Test.YtffkikhknabddaaXv
namespace Go.Proofs.Ytffkikhknabddaa
open Go.RowKit Go.Df Go.Df.If
attribute [local go_sem ↓] Go.wp_at_zero Go.wp_at_succ

set_option maxRecDepth 100000 in
set_option maxHeartbeats 4000000 in
theorem expWithin_any (A1 A2 E1 E2 : Option Addr) (n1 c1 n2 c2 m1 d1 m2 d2 : Nat) (re re' : List Bool) (fs fs' : List (List Int)) (w : World) (hr : Bls w A1 n1 re) (hf : IntsR w A2 n2 fs) (hr' : Bls w E1 m1 re') (hf' : IntsR w E2 m2 fs') (h1 : n1 ≤ 9223372036854775807) (h2 : n2 ≤ 9223372036854775807) (h3 : m1 ≤ 9223372036854775807) (h4 : m2 ≤ 9223372036854775807) (hwa : ∀ i, i < n2 → ∀ x ∈ gil fs i, (Lit.int .i64 x).wf = true) (hwb : ∀ i, i < m2 → ∀ x ∈ gil fs' i, (Lit.int .i64 x).wf = true) :
    Calls Try.prog 13 #[.agg #[.slice A1 n1 c1, .slice A2 n2 c2], .agg #[.slice E1 m1 d1, .slice E2 m2 d2]] w fun e w' => e = .returned (.bool true) ∧ Below w.heap.size w w' := by
  have HR := Lib.hid hr
  have HF := Lib.hid hf
  have HR' := Lib.hid hr'
  have HF' := Lib.hid hf'
  clear hr hf hr' hf'
  go_enter Try.func13, Try.ntmps13
  go_upto_region 1 with fail
  refine wp_named (fun W => ∃ b0 b1, w.heap.size = b0 ∧ w.heap.size + 1 = b1 ∧ Blk W b0 [.slice A1 n1 c1, .slice A2 n2 c2] ∧ Blk W b1 [.slice E1 m1 d1, .slice E2 m2 d2] ∧ Below w.heap.size w W) ⟨_, _, rfl, rfl, ?_, ?_, ?_⟩ ?_
  · exact (Blk.new _ _ _ _ (by first | rfl | simp)).alloc _
  · exact Blk.new _ _ _ _ (by first | rfl | simp)
  · go_grown
  rintro W ⟨b0, b1, e0, e1, B0, B1, hB⟩
  rw [e1, e0]
  have G0 : w.heap.size ≤ b0 := by omega
  have n01 : b0 ≠ b1 := by omega
  have G1 : w.heap.size ≤ b1 := by omega
  have n10 : b1 ≠ b0 := by omega
  clear e0 e1
  have ⟨L0, C0, F0⟩ := B0
  have ⟨L1, C1, F1⟩ := B1
  have hkW : Kept [] w W := (Kept.refl _ _).call hB
  by_cases t1 : 100 < n2
  · have d1 : decide ((100 : Int) < n2) = true := by simp; omega
    go_wp2_with fail
    go_ret
    exact ⟨rfl, hkW.toBelow⟩
  have e1 : decide ((100 : Int) < n2) = false := by simp; omega
  by_cases t2 : 100 < m2
  · have d2 : decide ((100 : Int) < m2) = true := by simp; omega
    go_wp2_with fail
    go_ret
    exact ⟨rfl, hkW.toBelow⟩
  have e2 : decide ((100 : Int) < m2) = false := by simp; omega
  clear t1 t2
  go_upto_region 3 with fail
  obtain ⟨r0, hr0⟩ : ∃ r0 : Bool, (r0 = true ↔ Wi re fs re' fs') := by
    by_cases h : Wi re fs re' fs'
    · exact ⟨true, ⟨fun _ => h, fun _ => rfl⟩⟩
    · exact ⟨false, ⟨fun h => (by cases h), fun h9 => absurd h9 h⟩⟩
  have HR0 := Lib.hid hr0
  have HEQ : Hid (∀ r : Bool, (r = true ↔ Wi re fs re' fs') → r = r0) := Lib.hid (fun r h => by
    have h9 : (r = true) ↔ (r0 = true) := h.trans HR0.out.symm
    cases r <;> cases r0 <;> simp_all)
  clear hr0
  refine wp_region_E 15 (fun w' => SX0 W w') (by kernel_rfl) (by (repeat' first | (with_reducible assumption) | (with_reducible exact SX0.init _) | (with_reducible exact SX0.refl _) | (with_reducible refine SX0.alloc ?_ _) | (with_reducible refine SX0.call ?_ (by assumption)) | (with_reducible refine SX0.set ?_ _ _ _ ?_) | (with_reducible refine SX0.drew ?_) | (simp; done) | omega | (simp; omega))) (fun hHeld => ?_)
  refine WE_take 0 (v := ?_) rfl (by kernel_rfl) (fun _ _ _ h => h) (Or.inl ⟨by rfl, ?_⟩) (by assumption) ?_; rotate_left; (· intro w9 hSw; (try dsimp only at hSw); go_simp; try with_reducible rfl); (try simp only [Act.put, List.setIfInBounds_toArray, List.set_cons_zero, List.set_cons_succ])
  refine WE_take 1 (v := ?_) rfl (by kernel_rfl) (fun _ _ _ h => h) (Or.inl ⟨by rfl, ?_⟩) (by assumption) ?_; rotate_left; (· intro w9 hSw; (try dsimp only at hSw); go_simp; try with_reducible rfl); (try simp only [Act.put, List.setIfInBounds_toArray, List.set_cons_zero, List.set_cons_succ])
  refine WE_take 3 (v := ?_) rfl (by kernel_rfl) (fun _ _ _ h => h) (Or.inl ⟨by rfl, ?_⟩) (by assumption) ?_; rotate_left; (· intro w9 hSw; (try dsimp only at hSw); go_simp; try with_reducible rfl); (try simp only [Act.put, List.setIfInBounds_toArray, List.set_cons_zero, List.set_cons_succ])
  refine WE_take 4 (v := ?_) rfl (by kernel_rfl) (fun _ _ _ h => h) (Or.inl ⟨by rfl, ?_⟩) (by assumption) ?_; rotate_left; (· intro w9 hSw; (try dsimp only at hSw); go_simp; try with_reducible rfl); (try simp only [Act.put, List.setIfInBounds_toArray, List.set_cons_zero, List.set_cons_succ])
  refine WE_step 2 rfl (by kernel_rfl) (fun K hK => ?_)
  go_simp
  (first | (go_at_call 49; refine (rwithin_any A1 A2 E1 E2 n1 c1 n2 c2 m1 d1 m2 d2 re re' fs fs' _ (HR.out.later (keptTrans hkW hHeld.1).toBelow) (HF.out.later (keptTrans hkW hHeld.1).toBelow) (HR'.out.later (keptTrans hkW hHeld.1).toBelow) (HF'.out.later (keptTrans hkW hHeld.1).toBelow) h1 h2 h3 h4).mono ?_; rintro e w3 ⟨⟨rb, rfl, hrb⟩, hb3⟩; obtain rfl := HEQ.out rb hrb; clear hrb; have HX := Lib.hid hb3) | (go_at_call 43; refine (knows31_any _).mono ?_; rintro e w4 ⟨rfl, hb4⟩) | (have hx9 := HX.out.size; go_at_call 48; refine (pwithin_any A1 A2 A1 A2 n1 c1 n2 c2 n1 c1 n2 c2 re re fs fs _ (HR.out.later (keptTrans hkW hHeld.1).toBelow) (HF.out.later (keptTrans hkW hHeld.1).toBelow) (HR.out.later (keptTrans hkW hHeld.1).toBelow) (HF.out.later (keptTrans hkW hHeld.1).toBelow) h1 h2 h1 h2 hwa hwa).mono ?_; rintro e w5 ⟨⟨rc, rfl, hrc⟩, hb5⟩; obtain rfl := hrc.2 (Wi.refl re fs); clear hrc) | (go_at_call 48; refine (pwithin_any A1 A2 E1 E2 n1 c1 n2 c2 m1 d1 m2 d2 re re' fs fs' _ (HR.out.later (keptTrans hkW hHeld.1).toBelow) (HF.out.later (keptTrans hkW hHeld.1).toBelow) (HR'.out.later (keptTrans hkW hHeld.1).toBelow) (HF'.out.later (keptTrans hkW hHeld.1).toBelow) h1 h2 h3 h4 hwa hwb).mono ?_; rintro e w2 ⟨⟨ra, rfl, hra⟩, hb2⟩; obtain rfl := HEQ.out ra hra; clear hra))
  (try go_wp2_with fail)
  refine hK.out _ _ ?_ (fun hHeld => ?_)
  · (repeat' first | (with_reducible assumption) | (with_reducible exact SX0.init _) | (with_reducible exact SX0.refl _) | (with_reducible refine SX0.alloc ?_ _) | (with_reducible refine SX0.call ?_ (by assumption)) | (with_reducible refine SX0.set ?_ _ _ _ ?_) | (with_reducible refine SX0.drew ?_) | (simp; done) | omega | (simp; omega))
  clear hK K
  try simp only [Act.put, List.setIfInBounds_toArray, List.set_cons_zero, List.set_cons_succ]
  refine WE_step 5 rfl (by kernel_rfl) (fun K hK => ?_)
  go_simp
  (first | (go_at_call 49; refine (rwithin_any A1 A2 E1 E2 n1 c1 n2 c2 m1 d1 m2 d2 re re' fs fs' _ (HR.out.later (keptTrans hkW hHeld.1).toBelow) (HF.out.later (keptTrans hkW hHeld.1).toBelow) (HR'.out.later (keptTrans hkW hHeld.1).toBelow) (HF'.out.later (keptTrans hkW hHeld.1).toBelow) h1 h2 h3 h4).mono ?_; rintro e w3 ⟨⟨rb, rfl, hrb⟩, hb3⟩; obtain rfl := HEQ.out rb hrb; clear hrb; have HX := Lib.hid hb3) | (go_at_call 43; refine (knows31_any _).mono ?_; rintro e w4 ⟨rfl, hb4⟩) | (have hx9 := HX.out.size; go_at_call 48; refine (pwithin_any A1 A2 A1 A2 n1 c1 n2 c2 n1 c1 n2 c2 re re fs fs _ (HR.out.later (keptTrans hkW hHeld.1).toBelow) (HF.out.later (keptTrans hkW hHeld.1).toBelow) (HR.out.later (keptTrans hkW hHeld.1).toBelow) (HF.out.later (keptTrans hkW hHeld.1).toBelow) h1 h2 h1 h2 hwa hwa).mono ?_; rintro e w5 ⟨⟨rc, rfl, hrc⟩, hb5⟩; obtain rfl := hrc.2 (Wi.refl re fs); clear hrc) | (go_at_call 48; refine (pwithin_any A1 A2 E1 E2 n1 c1 n2 c2 m1 d1 m2 d2 re re' fs fs' _ (HR.out.later (keptTrans hkW hHeld.1).toBelow) (HF.out.later (keptTrans hkW hHeld.1).toBelow) (HR'.out.later (keptTrans hkW hHeld.1).toBelow) (HF'.out.later (keptTrans hkW hHeld.1).toBelow) h1 h2 h3 h4 hwa hwb).mono ?_; rintro e w2 ⟨⟨ra, rfl, hra⟩, hb2⟩; obtain rfl := HEQ.out ra hra; clear hra))
  (try go_wp2_with fail)
  refine hK.out _ _ ?_ (fun hHeld => ?_)
  · (repeat' first | (with_reducible assumption) | (with_reducible exact SX0.init _) | (with_reducible exact SX0.refl _) | (with_reducible refine SX0.alloc ?_ _) | (with_reducible refine SX0.call ?_ (by assumption)) | (with_reducible refine SX0.set ?_ _ _ _ ?_) | (with_reducible refine SX0.drew ?_) | (simp; done) | omega | (simp; omega))
  clear hK K
  try simp only [Act.put, List.setIfInBounds_toArray, List.set_cons_zero, List.set_cons_succ]
  refine WE_take 6 (v := ?_) rfl (by kernel_rfl) (fun _ _ _ h => h) (Or.inl ⟨by rfl, ?_⟩) (by assumption) ?_; rotate_left; (· intro w9 hSw; (try dsimp only at hSw); go_simp; try with_reducible rfl); (try simp only [Act.put, List.setIfInBounds_toArray, List.set_cons_zero, List.set_cons_succ])
  refine WE_take 7 (v := ?_) rfl (by kernel_rfl) (fun _ _ _ h => h) (Or.inl ⟨by rfl, ?_⟩) (by assumption) ?_; rotate_left; (· intro w9 hSw; (try dsimp only at hSw); go_simp; try with_reducible rfl); (try simp only [Act.put, List.setIfInBounds_toArray, List.set_cons_zero, List.set_cons_succ])
  first | (refine WE_take 8 (v := undef) rfl (by kernel_rfl) (fun _ _ _ h => h) (Or.inr ⟨by rfl, rfl⟩) (by assumption) ?_; (try simp only [Act.put, List.setIfInBounds_toArray, List.set_cons_zero, List.set_cons_succ])) | (refine WE_take 8 (v := ?_) rfl (by kernel_rfl) (fun _ _ _ h => h) (Or.inl ⟨by rfl, ?_⟩) (by assumption) ?_; rotate_left; (· intro w9 hSw; (try dsimp only at hSw); go_simp; try with_reducible rfl); (try simp only [Act.put, List.setIfInBounds_toArray, List.set_cons_zero, List.set_cons_succ]))
  first | (refine WE_take 9 (v := undef) rfl (by kernel_rfl) (fun _ _ _ h => h) (Or.inr ⟨by rfl, rfl⟩) (by assumption) ?_; (try simp only [Act.put, List.setIfInBounds_toArray, List.set_cons_zero, List.set_cons_succ])) | (refine WE_take 9 (v := ?_) rfl (by kernel_rfl) (fun _ _ _ h => h) (Or.inl ⟨by rfl, ?_⟩) (by assumption) ?_; rotate_left; (· intro w9 hSw; (try dsimp only at hSw); go_simp; try with_reducible rfl); (try simp only [Act.put, List.setIfInBounds_toArray, List.set_cons_zero, List.set_cons_succ]))
  refine WE_step 10 rfl (by kernel_rfl) (fun K hK => ?_)
  go_simp
  (first | (go_at_call 49; refine (rwithin_any A1 A2 E1 E2 n1 c1 n2 c2 m1 d1 m2 d2 re re' fs fs' _ (HR.out.later (keptTrans hkW hHeld.1).toBelow) (HF.out.later (keptTrans hkW hHeld.1).toBelow) (HR'.out.later (keptTrans hkW hHeld.1).toBelow) (HF'.out.later (keptTrans hkW hHeld.1).toBelow) h1 h2 h3 h4).mono ?_; rintro e w3 ⟨⟨rb, rfl, hrb⟩, hb3⟩; obtain rfl := HEQ.out rb hrb; clear hrb; have HX := Lib.hid hb3) | (go_at_call 43; refine (knows31_any _).mono ?_; rintro e w4 ⟨rfl, hb4⟩) | (have hx9 := HX.out.size; go_at_call 48; refine (pwithin_any A1 A2 A1 A2 n1 c1 n2 c2 n1 c1 n2 c2 re re fs fs _ (HR.out.later (keptTrans hkW hHeld.1).toBelow) (HF.out.later (keptTrans hkW hHeld.1).toBelow) (HR.out.later (keptTrans hkW hHeld.1).toBelow) (HF.out.later (keptTrans hkW hHeld.1).toBelow) h1 h2 h1 h2 hwa hwa).mono ?_; rintro e w5 ⟨⟨rc, rfl, hrc⟩, hb5⟩; obtain rfl := hrc.2 (Wi.refl re fs); clear hrc) | (go_at_call 48; refine (pwithin_any A1 A2 E1 E2 n1 c1 n2 c2 m1 d1 m2 d2 re re' fs fs' _ (HR.out.later (keptTrans hkW hHeld.1).toBelow) (HF.out.later (keptTrans hkW hHeld.1).toBelow) (HR'.out.later (keptTrans hkW hHeld.1).toBelow) (HF'.out.later (keptTrans hkW hHeld.1).toBelow) h1 h2 h3 h4 hwa hwb).mono ?_; rintro e w2 ⟨⟨ra, rfl, hra⟩, hb2⟩; obtain rfl := HEQ.out ra hra; clear hra))
  (try go_wp2_with fail)
  refine hK.out _ _ ?_ (fun hHeld => ?_)
  · (repeat' first | (with_reducible assumption) | (with_reducible exact SX0.init _) | (with_reducible exact SX0.refl _) | (with_reducible refine SX0.alloc ?_ _) | (with_reducible refine SX0.call ?_ (by assumption)) | (with_reducible refine SX0.set ?_ _ _ _ ?_) | (with_reducible refine SX0.drew ?_) | (simp; done) | omega | (simp; omega))
  clear hK K
  try simp only [Act.put, List.setIfInBounds_toArray, List.set_cons_zero, List.set_cons_succ]
  refine WE_take 11 (v := ?_) rfl (by kernel_rfl) (fun _ _ _ h => h) (Or.inl ⟨by rfl, ?_⟩) (by assumption) ?_; rotate_left; (· intro w9 hSw; (try dsimp only at hSw); go_simp; try with_reducible rfl); (try simp only [Act.put, List.setIfInBounds_toArray, List.set_cons_zero, List.set_cons_succ])
  refine WE_take 12 (v := ?_) rfl (by kernel_rfl) (fun _ _ _ h => h) (Or.inl ⟨by rfl, ?_⟩) (by assumption) ?_; rotate_left; (· intro w9 hSw; (try dsimp only at hSw); go_simp; try with_reducible rfl); (try simp only [Act.put, List.setIfInBounds_toArray, List.set_cons_zero, List.set_cons_succ])
  refine WE_step 13 rfl (by kernel_rfl) (fun K hK => ?_)
  go_simp
  (first | (go_at_call 49; refine (rwithin_any A1 A2 E1 E2 n1 c1 n2 c2 m1 d1 m2 d2 re re' fs fs' _ (HR.out.later (keptTrans hkW hHeld.1).toBelow) (HF.out.later (keptTrans hkW hHeld.1).toBelow) (HR'.out.later (keptTrans hkW hHeld.1).toBelow) (HF'.out.later (keptTrans hkW hHeld.1).toBelow) h1 h2 h3 h4).mono ?_; rintro e w3 ⟨⟨rb, rfl, hrb⟩, hb3⟩; obtain rfl := HEQ.out rb hrb; clear hrb; have HX := Lib.hid hb3) | (go_at_call 43; refine (knows31_any _).mono ?_; rintro e w4 ⟨rfl, hb4⟩) | (have hx9 := HX.out.size; go_at_call 48; refine (pwithin_any A1 A2 A1 A2 n1 c1 n2 c2 n1 c1 n2 c2 re re fs fs _ (HR.out.later (keptTrans hkW hHeld.1).toBelow) (HF.out.later (keptTrans hkW hHeld.1).toBelow) (HR.out.later (keptTrans hkW hHeld.1).toBelow) (HF.out.later (keptTrans hkW hHeld.1).toBelow) h1 h2 h1 h2 hwa hwa).mono ?_; rintro e w5 ⟨⟨rc, rfl, hrc⟩, hb5⟩; obtain rfl := hrc.2 (Wi.refl re fs); clear hrc) | (go_at_call 48; refine (pwithin_any A1 A2 E1 E2 n1 c1 n2 c2 m1 d1 m2 d2 re re' fs fs' _ (HR.out.later (keptTrans hkW hHeld.1).toBelow) (HF.out.later (keptTrans hkW hHeld.1).toBelow) (HR'.out.later (keptTrans hkW hHeld.1).toBelow) (HF'.out.later (keptTrans hkW hHeld.1).toBelow) h1 h2 h3 h4 hwa hwb).mono ?_; rintro e w2 ⟨⟨ra, rfl, hra⟩, hb2⟩; obtain rfl := HEQ.out ra hra; clear hra))
  (try go_wp2_with fail)
  refine hK.out _ _ ?_ (fun hHeld => ?_)
  · (repeat' first | (with_reducible assumption) | (with_reducible exact SX0.init _) | (with_reducible exact SX0.refl _) | (with_reducible refine SX0.alloc ?_ _) | (with_reducible refine SX0.call ?_ (by assumption)) | (with_reducible refine SX0.set ?_ _ _ _ ?_) | (with_reducible refine SX0.drew ?_) | (simp; done) | omega | (simp; omega))
  clear hK K
  try simp only [Act.put, List.setIfInBounds_toArray, List.set_cons_zero, List.set_cons_succ]
  refine WE_take 14 (v := ?_) rfl (by kernel_rfl) (fun _ _ _ h => h) (Or.inl ⟨by rfl, ?_⟩) (by assumption) ?_; rotate_left; (· intro w9 hSw; (try dsimp only at hSw); go_simp; try with_reducible rfl); (try simp only [Act.put, List.setIfInBounds_toArray, List.set_cons_zero, List.set_cons_succ])
  refine WE_last rfl (by kernel_rfl) (fun K hK => ?_)
  go_simp
  refine hK.out _ _ ?_
  clear hK K
  have hk9 : Kept [] w w4 := keptTrans hkW hHeld.1
  go_wp2_with fail
  go_ret
  exact ⟨rfl, hk9.toBelow⟩
end Go.Proofs.Ytffkikhknabddaa
namespace Go.Proofs.Ytffkikhknabddaa
open Go.RowKit Go.ChangeShapes Go.WideShapes Go.Joins Go.Df Go.Df.If
section
variable {H : Type} {enc : TypeId × Value → H} {w : World} {base : Nat} {held : Bool}
theorem open_intsF {fuel : Nat} {v : Value} {x : DataW H × List MemPlace} (h : DataW.trod enc Try.prog w base (fun _ => true) held fuel 41 [v] = some x) : ∃ A n c ls, v = .slice A n c ∧ n ≤ 9223372036854775807 ∧ IntsR w A n ls ∧ ∀ i, i < n → ∀ x ∈ gil ls i, (Lit.int .i64 x).wf = true := by
  obtain ⟨A, n, c, rfl, hnc, hrow⟩ := open_rowsC Try.underlying41 (by kernel_rfl) h
  have hn := slice_len Try.underlying41 h
  have hex : ∀ i, ∃ l : List Int, (∀ x ∈ l, (Lit.int .i64 x).wf = true) ∧ ∀ b o, A = some ⟨b, o, none⟩ → i < n → ∃ Ai ni ci, w.cell? ⟨b, o + i, none⟩ = some (.slice Ai ni ci) ∧ Ints w Ai ni l ∧ ni ≤ 9223372036854775807 := by
    intro i
    by_cases hi : i < n
    · obtain ⟨b, o, rfl, hb, hc⟩ := hrow (by omega)
      obtain ⟨u, m, y, h1, h2⟩ := hc i hi
      obtain ⟨Ai, ni, ci, path, rfl, hp, hfit⟩ := open_SIn Try.underlying26 Try.underlying3 (by kernel_rfl) h2
      have hni := slice_len Try.underlying26 h2
      refine ⟨path, fun x hx => WalkArith.wf_i64 (hfit x hx), fun b' o' e' _ => ?_⟩
      injection e' with e'
      injection e' with e1 e2
      subst e1 e2
      exact ⟨Ai, ni, ci, h1, hp.1, hni⟩
    · exact ⟨[], fun x hx => (by simp at hx), fun _ _ _ h => absurd h hi⟩
  refine ⟨A, n, c, (List.range n).map (fun i => (hex i).choose), rfl, hn, ⟨by simp, fun h0 => ?_⟩, fun i hi x hx => ?_⟩
  rotate_left
  · rw [gil_mk hi] at hx
    exact (hex i).choose_spec.1 x hx
  obtain ⟨b, o, rfl, hb, -⟩ := hrow h0
  refine ⟨b, o, rfl, hb, fun i hi => ?_⟩
  rw [gil_mk hi]
  exact (hex i).choose_spec.2 b o rfl hi
set_option maxRecDepth 100000 in
/-- A solution that came in. -/
theorem open_solF {r : Reach} {b0 : Nat} {v : Value} {d : DataW H} {p : List MemPlace} (hv : Value.okWide Try.prog w r b0 53 v) (h : DataW.Trod enc Try.prog w base (fun _ => true) held 53 v d p) :
    ∃ A1 n1 c1 A2 n2 c2 re fs, v = .agg #[.slice A1 n1 c1, .slice A2 n2 c2] ∧ Bls w A1 n1 re ∧ IntsR w A2 n2 fs ∧ n1 ≤ 9223372036854775807 ∧ n2 ≤ 9223372036854775807 ∧ ∀ i, i < n2 → ∀ x ∈ gil fs i, (Lit.int .i64 x).wf = true := by
  obtain ⟨cs, rfl, hsz⟩ := okWide_struct Try.underlying53 hv
  have hC : Try.prog.cellsOf 53 = 2 := by kernel_rfl
  have hS : Try.prog.cellsOf 29 = 1 := by kernel_rfl
  have hR : Try.prog.cellsOf 41 = 1 := by kernel_rfl
  rw [hC] at hsz
  obtain ⟨l⟩ := cs
  match l, hsz with
  | [v0, v1], _ =>
  obtain ⟨fuel, hf⟩ := h
  obtain ⟨y0, y1, m, -, -, h0, h1⟩ := Go.ChangeShapes.trod_struct2 Try.underlying53 hf
  simp only [Value.cells, hS, hR, List.drop_zero, List.drop_succ_cons, List.take_succ_cons, List.take_zero] at h0 h1
  obtain ⟨A1, n1, c1, re, rfl, hn1, hr⟩ := open_bls h0
  obtain ⟨A2, n2, c2, fs, rfl, hn2, hf, hw⟩ := open_intsF h1
  exact ⟨A1, n1, c1, A2, n2, c2, re, fs, rfl, hr, hf, hn1, hn2, hw⟩
end
end Go.Proofs.Ytffkikhknabddaa
