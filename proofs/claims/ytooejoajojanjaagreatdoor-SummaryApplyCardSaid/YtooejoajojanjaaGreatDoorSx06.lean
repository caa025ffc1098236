/- Texts: Pu Px. -/
import Derived.Test.YtooejoajojanjaaGreatDoorSx03
import Derived.Test.YtooejoajojanjaaGreatDoorSx04
import Derived.Test.YtooejoajojanjaaGreatDoorSx05
import Derived.Lib.SmallJoins
namespace Go.Df
open Go.RowKit
theorem keptBelow {X : List Nat} {base : Nat} {w w' : World} (h : Kept X w w') (hX : ∀ y ∈ X, base ≤ y) (hb : base ≤ w.heap.size) : Below base w w' :=
  ⟨h.os, h.tape, h.output, h.size, fun k hk => h.block k (by omega) (fun hm => by have := hX k hm; omega)⟩
theorem Kept.below0 {base : Nat} {w w' : World} (h : Kept [] w w') (hb : base ≤ w.heap.size) : Below base w w' := keptBelow h (by simp) hb
namespace If
theorem spl_len : ∀ (s : Bs), ∀ x ∈ splW s, x.length ≤ s.length
  | [], x, hx => by simp [splW] at hx; simp [hx]
  | c :: s, x, hx => by
    have ih := spl_len s
    rw [splW] at hx
    split at hx
    · rcases List.mem_cons.1 hx with h | h
      · simp [h]
      · have := ih x h
        simp; omega
    · cases hs : splW s with
      | nil => exact absurd hs (spl_ne s)
      | cons v ws =>
        rw [hs] at hx ih
        rcases List.mem_cons.1 hx with h | h
        · have := ih v (by simp)
          simp [h]; omega
        · have := ih x (by simp [h])
          simp; omega
/-- A list of summaries of one's own comes back, with an error. -/
def GetP (base : Nat) (ts tp : TypeId) (w : World) (r : Int × List Su) (e : Ending) (w' : World) : Prop := ∃ A n c, e = .returned (.tuple #[.slice A n c, .int .i64 r.1]) ∧ (r.1 = 0 → ∃ R cs, SmO w' base ts tp A n c r.2 R cs) ∧ Below base w w'
theorem numI_some {x : Bs} {k : Nat} (h : numB x = some k) : numI x = k := by unfold numI; rw [h]
theorem numI_none {x : Bs} (h : numB x = none) : numI x = -1 := by unfold numI; rw [h]
theorem lin_two {L : List Su} {s x0 x1 : Bs} (h : splW s = [x0, x1]) : linS L s = match numB x1 with | some n => if x0 = kwF then (if sumErr 1024 (L ++ [⟨n, [], []⟩]) = 0 then (0, L ++ [⟨n, [], []⟩]) else (sumErr 1024 (L ++ [⟨n, [], []⟩]), [])) else (2, []) | none => (2, []) := by
  unfold linS; rw [h]; rfl
theorem lin_other {L : List Su} {s : Bs} (h2 : (splW s).length ≠ 2) (h3 : (splW s).length ≠ 3) : linS L s = (2, []) := by
  unfold linS linW
  split
  · rename_i e; rw [e] at h2; exact absurd rfl h2
  · rename_i e; rw [e] at h3; exact absurd rfl h3
  · rfl
/-- What comes back, where the error is that of the list. -/
def errL (e : Int) (L : List Su) : Int × List Su := if e = 0 then (0, L) else (e, [])
theorem errL_1 (e : Int) (L : List Su) : (errL e L).1 = e := by unfold errL; split <;> simp_all
theorem errL_2 {e : Int} {L : List Su} (h : (errL e L).1 = 0) : (errL e L).2 = L := by rw [errL_1] at h; unfold errL; rw [if_pos h]
theorem lin_three {L : List Su} {s x0 x1 x2 : Bs} (h : splW s = [x0, x1, x2]) : linS L s = match numB x1, numB x2 with
    | some a, some b => if L = [] then (2, []) else if x0 = kwT then errL (sumErr 1024 (addY L ⟨a, b⟩)) (addY L ⟨a, b⟩) else if x0 = kwE then (if (gS L (L.length - 1)).y ≠ [] then (13, []) else errL (sumErr 1024 (addX L ⟨a, b⟩)) (addX L ⟨a, b⟩)) else (2, [])
    | _, _ => (2, []) := by
  unfold linS; rw [h]
  unfold linW errL
  dsimp only
  cases numB x1 with
  | none => rfl
  | some a => cases numB x2 with
    | none => rfl
    | some b =>
      dsimp only
      repeat' split
      all_goals first | rfl | simp_all
end If
end Go.Df
namespace Go.Proofs.YtooejoajojanjaaGreatDoor
open Go.RowKit Go.Df Go.Df.If
attribute [local go_sem ↓] Go.wp_at_zero Go.wp_at_succ
set_option maxRecDepth 100000 in
set_option maxHeartbeats 8000000 in
theorem rline_any (base : Nat) (A : Option Addr) (n c : Nat) (L : List Su) (s : Bs) (R : Nat → Bool → Value) (cs : List Value) (w : World) (hS : SmO w base 30 72 A n c L R cs) (hok : sumErr 1024 L = 0) (hs : s.length ≤ 100000) (hbase : base ≤ w.heap.size) :
    Calls Tryz.prog 48 #[.slice A n c, .string ⟨s.toArray⟩] w (GetP base 30 72 w (linS L s)) := by
  obtain ⟨i1, hj, hy0, hy1, hy2⟩ := info_parts sumf_info
  have HS := Lib.hid hS
  have HLE := Lib.hid hS.len
  have HOK := Lib.hid (sum_ok.1 hok)
  have hn256 : n ≤ 256 := by have h1 := HOK.out.2.1; have h2 := HLE.out; omega
  have HWD := Lib.hid (fun w => rwords_any s w hs)
  obtain ⟨ws, hws⟩ : ∃ ws, splW s = ws := ⟨_, rfl⟩
  have HWS := Lib.hid hws
  have HXL : Hid (∀ x ∈ ws, x.length ≤ 9223372036854775807) := Lib.hid (fun x hx => by rw [← hws] at hx; have := spl_len s x hx; omega)
  rw [hws] at HWD
  clear hS hok hs hws
  have HNU : Hid (∀ x ∈ ws, ∀ w, Calls Tryz.prog 82 #[.string ⟨x.toArray⟩] w fun e w' => e = .returned (.int .i64 (numI x)) ∧ Below w.heap.size w w') := Lib.hid (fun x hx w => rnum_any x w (HXL.out x hx))
  -- what the function does, up to the words
  by_cases h2 : ws.length = 2
  · obtain ⟨x0, x1, rfl⟩ : ∃ x0 x1, ws = [x0, x1] := by
      match ws, h2 with
      | [x0, x1], _ => exact ⟨_, _, rfl⟩
    have HLI := Lib.hid (lin_two (L := L) HWS.out)
    have HN1 := Lib.hid (HNU.out x1 (by simp))
    clear h2 HNU HXL
    by_cases hF : x0 = kwF
    case neg =>
      have hF1 : ¬ x0 = [102, 117, 110, 99] := hF
      have hE : Hid (linS L s = (2, [])) := Lib.hid (by
        rw [HLI.out]
        cases numB x1 with
        | none => rfl
        | some k => dsimp only; rw [if_neg hF])
      clear hF HLI
      go_enter Tryz.func48, Tryz.ntmps48
      go_upto_region 2 with (go_at_call 81; refine (HWD.out _).mono ?_; rintro e w1 ⟨W, nW, cW, rfl, hW, hb1⟩)
      have HK1 : Hid (Kept [] w w1) := Lib.hid ((Kept.refl [] w).call hb1)
      obtain ⟨rfl, b, o, rfl, hl, c0, c1⟩ := hW.two
      clear hW
      go_wp2_with fail
      go_ret2
      exact ⟨none, 0, 0, by rw [hE.out]; rfl, fun h9 => (by rw [hE.out] at h9; cases h9), HK1.out.below0 hbase⟩
    have HF := Lib.hid hF
    cases hN : numB x1 with
    | none =>
      have hE : Hid (linS L s = (2, [])) := Lib.hid (by rw [HLI.out, hN])
      rw [numI_none hN] at HN1
      clear hN HLI hF
      go_enter Tryz.func48, Tryz.ntmps48
      go_upto_region 2 with (go_at_call 81; refine (HWD.out _).mono ?_; rintro e w1 ⟨W, nW, cW, rfl, hW, hb1⟩)
      have HK1 : Hid (Kept [] w w1) := Lib.hid ((Kept.refl [] w).call hb1)
      obtain ⟨rfl, b, o, rfl, hl, c0, c1⟩ := hW.two
      rw [HF.out] at c0
      replace c0 : w1.cell? ⟨b, o, none⟩ = some (.string ⟨#[102, 117, 110, 99]⟩) := c0
      clear hW
      go_wp2_with (go_at_call 82; with_reducible refine (HN1.out _).mono ?_; rintro e w2 ⟨rfl, hbw2⟩)
      go_ret2
      exact ⟨none, 0, 0, by rw [hE.out]; rfl, fun h9 => (by rw [hE.out] at h9; cases h9), (HK1.out.call hbw2).below0 hbase⟩
    | some k =>
      have hE : Hid (linS L s = errL (sumErr 1024 (L ++ [⟨k, [], []⟩])) (L ++ [⟨k, [], []⟩])) := Lib.hid (by rw [HLI.out, hN]; dsimp only; rw [if_pos hF]; rfl)
      rw [numI_some hN] at HN1
      clear hN HLI hF
      go_enter Tryz.func48, Tryz.ntmps48
      go_upto_region 2 with (go_at_call 81; refine (HWD.out _).mono ?_; rintro e w1 ⟨W, nW, cW, rfl, hW, hb1⟩)
      have HK1 : Hid (Kept [] w w1) := Lib.hid ((Kept.refl [] w).call hb1)
      obtain ⟨rfl, b, o, rfl, hl, c0, c1⟩ := hW.two
      rw [HF.out] at c0
      replace c0 : w1.cell? ⟨b, o, none⟩ = some (.string ⟨#[102, 117, 110, 99]⟩) := c0
      clear hW
      go_upto_region 3 with (go_at_call 82; with_reducible refine (HN1.out _).mono ?_; rintro e w2 ⟨rfl, hbw2⟩)
      have HK2 : Hid (Kept [] w w2) := Lib.hid (HK1.out.call hbw2)
      have hl2 : b < w2.heap.size := Nat.lt_of_lt_of_le hl hbw2.size
      have d1 := (((Kept.refl [] w1).call hbw2).cell b (o + 1) hl (by simp)).trans c1
      clear c0 c1
      go_upto_region 4 with (first | (go_at_call 82; with_reducible refine (HN1.out _).mono ?_; rintro e w3 ⟨rfl, hbw3⟩; have HK3 : Hid (Kept [] w w3) := Lib.hid (HK2.out.call hbw3)) | (at_builtin; refine wpList_append_rd _ rfl _ _ 22 rfl base 30 i1 (.agg #[.int .i64 0, .slice none 0 0, .slice none 0 0]) 3 56 Tryz.underlying22 hj hy0 hy1 hy2 rfl (by decide) (.slice A n c) n _ rfl (own_keptT (X := []) HS.out.own (HK3.out.alloc _) (by simp)) (some ⟨w3.heap.size, 0, none⟩) 1 1 [.int .i64 (k : Nat), .slice none 0 0, .slice none 0 0] rfl (new3P _ _ _ _ _ _ rfl) (fun h => by cases h) (by intro u hu; simp at hu; rcases hu with rfl | rfl <;> rfl) (n + 1) rfl _ rfl (by unfold maxLen; omega) (by omega) (by have := HK3.out.size; simp; omega) ?_; intro A9 c9 w9 hown9 hk9 hat9; have HO9 := Lib.hid hown9; have HK9 := Lib.hid hk9; clear hown9 hk9 hat9))
      have HS3 := Lib.hid (HS.out.keep HK3.out)
      have HX3 : Hid (∀ y ∈ (Value.slice A n c).ownBlock.toList, base ≤ y) := Lib.hid (fun y hy => own_ge HS.out.own (by simpa using hy))
      have HK39 : Hid (Kept (Value.slice A n c).ownBlock.toList w3 w9) := Lib.hid (((Kept.refl _ w3).alloc _).next HK9.out (fun y hy => .inl hy))
      have HS9 := Lib.hid (HS3.out.push (by decide) (u := ⟨k, [], []⟩) rfl HO9.out HK39.out (World.ownsRow_nil _ _ _ _) (World.ownsRow_nil _ _ _ _) (fun i b hi g hg => ⟨by simp [Value.ownBlock], by simp [Value.ownBlock]⟩) (fun g hg => by cases hg))
      have HB9 : Hid (Below base w w9) := Lib.hid ((HK3.out.below0 hbase).trans (keptBelow HK39.out HX3.out (by have := HK3.out.size; omega)))
      have hs9 : base ≤ w9.heap.size := by have := HB9.out.size; omega
      obtain ⟨pe, hpe⟩ : ∃ pe, sumErr 1024 (L ++ [⟨k, [], []⟩]) = pe := ⟨_, rfl⟩
      rw [hpe] at hE
      have HCK := Lib.hid (rsumck_any A9 (n + 1) c9 (L ++ [⟨k, [], []⟩]) 1024 w9 HS9.out.sm)
      rw [hpe] at HCK
      clear hpe d1
      go_wp2_with (go_at_call 12; refine HCK.out.mono ?_; rintro e w10 ⟨rfl, hb10⟩)
      go_ret2
      refine ⟨A9, n + 1, c9, by rw [hE.out, errL_1]; rfl, fun h9 => ?_, HB9.out.trans (((Kept.refl [] w9).call hb10).below0 hs9)⟩
      rw [hE.out] at h9 ⊢
      rw [errL_2 h9]
      exact ⟨_, _, HS9.out.keep ((Kept.refl _ _).call hb10)⟩
  by_cases h3 : ws.length = 3
  case neg =>
    have hE : Hid (linS L s = (2, [])) := Lib.hid (lin_other (by rw [HWS.out]; exact h2) (by rw [HWS.out]; exact h3))
    obtain ⟨nw, hnw⟩ : ∃ nw, ws.length = nw := ⟨_, rfl⟩
    rw [hnw] at h2 h3
    have g2 : ((nw : Int) == 2) = false := by simp; omega
    have g3 : ((nw : Int) != 3) = true := by simp; omega
    go_enter Tryz.func48, Tryz.ntmps48
    go_upto_region 2 with (go_at_call 81; refine (HWD.out _).mono ?_; rintro e w1 ⟨W, nW, cW, rfl, hW, hb1⟩)
    obtain rfl : nW = nw := hW.1.symm.trans hnw
    have HK1 : Hid (Kept [] w w1) := Lib.hid ((Kept.refl [] w).call hb1)
    clear hW hnw h2 h3
    go_wp2_with fail
    go_ret2
    exact ⟨none, 0, 0, by rw [hE.out]; rfl, fun h9 => (by rw [hE.out] at h9; cases h9), HK1.out.below0 hbase⟩
  obtain ⟨x0, x1, x2, rfl⟩ : ∃ x0 x1 x2, ws = [x0, x1, x2] := by
    match ws, h3 with
    | [x0, x1, x2], _ => exact ⟨_, _, _, rfl⟩
  have HLI := Lib.hid (lin_three (L := L) HWS.out)
  have HN1 := Lib.hid (HNU.out x1 (by simp))
  have HN2 := Lib.hid (HNU.out x2 (by simp))
  clear h2 h3 HNU HXL
  by_cases hET : x0 = kwE ∨ x0 = kwT
  case neg =>
    have hF1 : ¬ x0 = [101, 120, 105, 116] := fun e => hET (.inl e)
    have hF2 : ¬ x0 = [116, 104, 114, 111, 119] := fun e => hET (.inr e)
    have hE : Hid (linS L s = (2, [])) := Lib.hid (by
      rw [HLI.out]
      cases numB x1 with
      | none => rfl
      | some a => cases numB x2 with
        | none => rfl
        | some bb =>
          dsimp only
          rw [if_neg (fun e => hET (.inr e)), if_neg (fun e => hET (.inl e)), ite_self])
    clear hET HLI
    go_enter Tryz.func48, Tryz.ntmps48
    go_upto_region 2 with (go_at_call 81; refine (HWD.out _).mono ?_; rintro e w1 ⟨W, nW, cW, rfl, hW, hb1⟩)
    have HK1 : Hid (Kept [] w w1) := Lib.hid ((Kept.refl [] w).call hb1)
    obtain ⟨rfl, b, o, rfl, hl, c0, c1, c2⟩ := hW.three
    clear hW
    go_wp2_with fail
    go_ret2
    exact ⟨none, 0, 0, by rw [hE.out]; rfl, fun h9 => (by rw [hE.out] at h9; cases h9), HK1.out.below0 hbase⟩
  rcases hET with hF | hF
  case inl =>
    have HF := Lib.hid hF
    cases hN : numB x1 with
    | none =>
      have hE : Hid (linS L s = (2, [])) := Lib.hid (by rw [HLI.out, hN])
      rw [numI_none hN] at HN1
      clear hN HLI hF
      go_enter Tryz.func48, Tryz.ntmps48
      go_upto_region 2 with (go_at_call 81; refine (HWD.out _).mono ?_; rintro e w1 ⟨W, nW, cW, rfl, hW, hb1⟩)
      have HK1 : Hid (Kept [] w w1) := Lib.hid ((Kept.refl [] w).call hb1)
      obtain ⟨rfl, b, o, rfl, hl, c0, c1, c2⟩ := hW.three
      rw [HF.out] at c0
      replace c0 : w1.cell? ⟨b, o, none⟩ = some (.string ⟨#[101, 120, 105, 116]⟩) := c0
      clear hW
      go_wp2_with (go_at_call 82; with_reducible refine (HN1.out _).mono ?_; rintro e w2 ⟨rfl, hbw2⟩)
      go_ret2
      exact ⟨none, 0, 0, by rw [hE.out]; rfl, fun h9 => (by rw [hE.out] at h9; cases h9), (HK1.out.call hbw2).below0 hbase⟩
    | some a =>
    cases hM : numB x2 with
    | none =>
      have hE : Hid (linS L s = (2, [])) := Lib.hid (by rw [HLI.out, hN, hM])
      rw [numI_some hN] at HN1
      rw [numI_none hM] at HN2
      have ga : decide ((a : Int) < 0) = false := by simp
      clear hN hM HLI hF
      go_enter Tryz.func48, Tryz.ntmps48
      go_upto_region 2 with (go_at_call 81; refine (HWD.out _).mono ?_; rintro e w1 ⟨W, nW, cW, rfl, hW, hb1⟩)
      have HK1 : Hid (Kept [] w w1) := Lib.hid ((Kept.refl [] w).call hb1)
      obtain ⟨rfl, b, o, rfl, hl, c0, c1, c2⟩ := hW.three
      rw [HF.out] at c0
      replace c0 : w1.cell? ⟨b, o, none⟩ = some (.string ⟨#[101, 120, 105, 116]⟩) := c0
      clear hW
      go_upto_region 6 with (first | (go_at_call 82; with_reducible refine (HN1.out _).mono ?_; rintro e w2 ⟨rfl, hbw2⟩; have d2 := (((Kept.refl [] w1).call hbw2).cell b (o + 2) hl (by simp)).trans c2) | (go_at_call 82; with_reducible refine (HN2.out _).mono ?_; rintro e w3 ⟨rfl, hbw3⟩))
      go_wp2_with fail
      go_ret2
      exact ⟨none, 0, 0, by rw [hE.out]; rfl, fun h9 => (by rw [hE.out] at h9; cases h9), ((HK1.out.call hbw2).call hbw3).below0 hbase⟩
    | some bb =>
    rw [numI_some hN] at HN1
    rw [numI_some hM] at HN2
    have ga : decide ((a : Int) < 0) = false := by simp
    have gb : decide ((bb : Int) < 0) = false := by simp
    by_cases hL : L = []
    · have hE : Hid (linS L s = (2, [])) := Lib.hid (by rw [HLI.out, hN, hM]; dsimp only; rw [if_pos hL])
      obtain rfl : n = 0 := by have h9 := HLE.out; rw [hL] at h9; exact h9.symm
      clear hN hM HLI hF hL
      go_enter Tryz.func48, Tryz.ntmps48
      go_upto_region 2 with (go_at_call 81; refine (HWD.out _).mono ?_; rintro e w1 ⟨W, nW, cW, rfl, hW, hb1⟩)
      have HK1 : Hid (Kept [] w w1) := Lib.hid ((Kept.refl [] w).call hb1)
      obtain ⟨rfl, b, o, rfl, hl, c0, c1, c2⟩ := hW.three
      rw [HF.out] at c0
      replace c0 : w1.cell? ⟨b, o, none⟩ = some (.string ⟨#[101, 120, 105, 116]⟩) := c0
      clear hW
      go_upto_region 6 with (first | (go_at_call 82; with_reducible refine (HN1.out _).mono ?_; rintro e w2 ⟨rfl, hbw2⟩; have d2 := (((Kept.refl [] w1).call hbw2).cell b (o + 2) hl (by simp)).trans c2) | (go_at_call 82; with_reducible refine (HN2.out _).mono ?_; rintro e w3 ⟨rfl, hbw3⟩))
      go_wp2_with fail
      go_ret2
      exact ⟨none, 0, 0, by rw [hE.out]; rfl, fun h9 => (by rw [hE.out] at h9; cases h9), ((HK1.out.call hbw2).call hbw3).below0 hbase⟩
    obtain ⟨m, rfl⟩ : ∃ m, n = m + 1 := ⟨n - 1, by have h9 := HLE.out; have : 0 < L.length := List.length_pos_iff.2 hL; omega⟩
    have hLm : L.length - 1 = m := by have h9 := HLE.out; omega
    have g0 : (((m : Int) + 1) == 0) = false := by simp; omega
    obtain ⟨u, hu⟩ : ∃ u, gS L m = u := ⟨_, rfl⟩
    obtain ⟨uf, ux, uy⟩ := u
    have HU := Lib.hid hu
    have HLX : Hid (ux.length ≤ 8192 ∧ uy.length ≤ 8192) := Lib.hid (by
      have h9 := HOK.out.2.2 m (by have := HLE.out; omega)
      rw [hu] at h9
      exact ⟨(ls_ok.1 h9.2.1).1, (ls_ok.1 h9.2.2).1⟩)
    have HR0 := Lib.hid (HS.out.row m false (by omega))
    have HR1 := Lib.hid (HS.out.row m true (by omega))
    rw [hu] at HR0 HR1
    obtain ⟨E0, d0, hv0⟩ := own_shape HR0.out
    obtain ⟨E1, d1, hv1⟩ := own_shape HR1.out
    have hv0 : R m false = .slice E0 ux.length d0 := hv0
    have hv1 : R m true = .slice E1 uy.length d1 := hv1
    have HV0 := Lib.hid hv0
    have HV1 := Lib.hid hv1
    have HLA := Lib.hid (fun (w4 : World) (hk : Kept [] w w4) => rlast_any base A m c L R cs w4 (HS.out.keep hk) (by omega))
    rw [hv0, hv1, hu] at HLA
    rw [hv0] at HR0
    rw [hv1] at HR1
    have HP0 := Lib.hid (Prs.ofOwn HR0.out).1
    have HP1 := Lib.hid (Prs.ofOwn HR1.out).1
    clear hv0 hv1 hu
    by_cases hy : uy = []
    case neg =>
      have hE : Hid (linS L s = (13, [])) := Lib.hid (by
        rw [HLI.out, hN, hM]
        dsimp only
        rw [if_neg hL, if_neg (by rw [hF]; exact kw_ne.1), if_pos hF, hLm, HU.out, if_pos hy])
      obtain ⟨ny, hny⟩ : ∃ ny, uy.length = ny := ⟨_, rfl⟩
      have hny0 : 0 < ny := by rw [← hny]; exact List.length_pos_iff.2 hy
      rw [hny] at HLA
      clear hN hM HLI hF hL hy hny
      go_enter Tryz.func48, Tryz.ntmps48
      go_upto_region 2 with (go_at_call 81; refine (HWD.out _).mono ?_; rintro e w1 ⟨W, nW, cW, rfl, hW, hb1⟩)
      have HK1 : Hid (Kept [] w w1) := Lib.hid ((Kept.refl [] w).call hb1)
      obtain ⟨rfl, b, o, rfl, hl, c0, c1, c2⟩ := hW.three
      rw [HF.out] at c0
      replace c0 : w1.cell? ⟨b, o, none⟩ = some (.string ⟨#[101, 120, 105, 116]⟩) := c0
      clear hW
      go_upto_region 7 with (first | (go_at_call 82; with_reducible refine (HN1.out _).mono ?_; rintro e w2 ⟨rfl, hbw2⟩; have d2 := (((Kept.refl [] w1).call hbw2).cell b (o + 2) hl (by simp)).trans c2) | (go_at_call 82; with_reducible refine (HN2.out _).mono ?_; rintro e w3 ⟨rfl, hbw3⟩))
      have HK3 : Hid (Kept [] w w3) := Lib.hid ((HK1.out.call hbw2).call hbw3)
      have hk13 : Kept [] w1 w3 := (((Kept.refl [] w1).call hbw2).call hbw3)
      have hl3 : b < w3.heap.size := Nat.lt_of_lt_of_le hl hk13.size
      have e0 := (hk13.cell b o hl (by simp)).trans c0
      clear c0 c1 c2 d2 hk13
      -- MARKE
      go_upto_region 8 with (go_at_call 83; refine (HLA.out _ HK3.out).mono ?_; rintro e w4 ⟨B, cB, rfl, hown4, hk4⟩)
      refine wp_named (fun V => ∃ q, w4.heap.size = q ∧ Blk V q [.int .i64 uf, .slice E0 ux.length d0, .slice E1 ny d1] ∧ Kept [] w4 V) ⟨_, rfl, Blk.new _ _ _ _ rfl, (Kept.refl _ _).alloc _⟩ ?_
      rintro V ⟨q, eq, BV, hkV⟩
      rw [eq]
      have ⟨LV, CV, FV⟩ := BV
      have hk3V : Kept [] w3 V := keptTrans hk4 hkV
      have f0 := (hk3V.cell b o hl3 (by simp)).trans e0
      have hlV : b < V.heap.size := Nat.lt_of_lt_of_le hl3 hk3V.size
      have g9 : decide ((0 : Int) < (ny : Int)) = true := by simp; omega
      have HKV : Hid (Kept [] w V) := Lib.hid (keptTrans HK3.out hk3V)
      clear eq e0 hown4
      go_wp2_with fail
      go_ret2
      exact ⟨none, 0, 0, by rw [hE.out]; rfl, fun h9 => (by rw [hE.out] at h9; cases h9), HKV.out.below0 hbase⟩
    subst hy
    have hE : Hid (linS L s = errL (sumErr 1024 (addX L ⟨a, bb⟩)) (addX L ⟨a, bb⟩)) := Lib.hid (by
      rw [HLI.out, hN, hM]
      dsimp only
      rw [if_neg hL, if_neg (by rw [hF]; exact kw_ne.1), if_pos hF, hLm, HU.out, if_neg (by simp)])
    have HAD : Hid (addX L ⟨a, bb⟩ = L.dropLast ++ [⟨uf, ux ++ [⟨a, bb⟩], []⟩]) := Lib.hid (by
      unfold addX
      rw [hLm, HU.out])
    obtain ⟨nx, hnx⟩ : ∃ nx, ux.length = nx := ⟨_, rfl⟩
    have HNX := Lib.hid hnx
    have hnx9 : nx ≤ 8192 := by have := HLX.out; omega
    rw [hnx] at HLA HP0
    clear hN hM HLI hF hL
    go_enter Tryz.func48, Tryz.ntmps48
    go_upto_region 2 with (go_at_call 81; refine (HWD.out _).mono ?_; rintro e w1 ⟨W, nW, cW, rfl, hW, hb1⟩)
    have HK1 : Hid (Kept [] w w1) := Lib.hid ((Kept.refl [] w).call hb1)
    obtain ⟨rfl, b, o, rfl, hl, c0, c1, c2⟩ := hW.three
    rw [HF.out] at c0
    replace c0 : w1.cell? ⟨b, o, none⟩ = some (.string ⟨#[101, 120, 105, 116]⟩) := c0
    clear hW
    go_upto_region 7 with (first | (go_at_call 82; with_reducible refine (HN1.out _).mono ?_; rintro e w2 ⟨rfl, hbw2⟩; have d2 := (((Kept.refl [] w1).call hbw2).cell b (o + 2) hl (by simp)).trans c2) | (go_at_call 82; with_reducible refine (HN2.out _).mono ?_; rintro e w3 ⟨rfl, hbw3⟩))
    have HK3 : Hid (Kept [] w w3) := Lib.hid ((HK1.out.call hbw2).call hbw3)
    have hk13 : Kept [] w1 w3 := (((Kept.refl [] w1).call hbw2).call hbw3)
    have hl3 : b < w3.heap.size := Nat.lt_of_lt_of_le hl hk13.size
    have e0 := (hk13.cell b o hl (by simp)).trans c0
    have e1 := (hk13.cell b (o + 1) hl (by simp)).trans c1
    have e2 := (hk13.cell b (o + 2) hl (by simp)).trans c2
    clear c0 c1 c2 d2 hk13
    go_upto_region 8 with (go_at_call 83; refine (HLA.out _ HK3.out).mono ?_; rintro e w4 ⟨B, cB, rfl, hown4, hk4⟩)
    refine wp_named (fun V => ∃ q, w4.heap.size = q ∧ Blk V q [.int .i64 uf, .slice E0 nx d0, .slice E1 0 d1] ∧ Kept [] w4 V) ⟨_, rfl, Blk.new _ _ _ _ rfl, (Kept.refl _ _).alloc _⟩ ?_
    rintro V ⟨q, eq, BV, hkV⟩
    rw [eq]
    have ⟨LV, CV, FV⟩ := BV
    have hk3V : Kept [] w3 V := keptTrans hk4 hkV
    have f0 := (hk3V.cell b o hl3 (by simp)).trans e0
    have f1 := (hk3V.cell b (o + 1) hl3 (by simp)).trans e1
    have f2 := (hk3V.cell b (o + 2) hl3 (by simp)).trans e2
    have hlV : b < V.heap.size := Nat.lt_of_lt_of_le hl3 hk3V.size
    have HKV : Hid (Kept [] w V) := Lib.hid (keptTrans HK3.out hk3V)
    have HOB := Lib.hid (own_keptT hown4 hkV (by simp))
    have HPV := Lib.hid (HP0.out.later HKV.out.toBelow)
    have HQ4 : Hid (w4.heap.size = q) := Lib.hid eq
    have hs34 := hk4.size
    have HIN := Lib.hid (HS.out.keep HK3.out |>.init rfl hk4 (Go.Joins.ownsRow_le hown4 (by have := HK3.out.size; omega)))
    clear e0 e1 e2 hown4 eq
    go_upto_region 12 with fail
    -- MARKE
    refine wp_region_E 12 (fun w' => SX0 V w') (by kernel_rfl) (by (repeat' first | (with_reducible assumption) | (with_reducible exact SX0.init _) | (with_reducible exact SX0.refl _) | (with_reducible refine SX0.alloc ?_ _) | (with_reducible refine SX0.call ?_ (by assumption)) | (with_reducible refine SX0.set ?_ _ _ _ ?_) | (with_reducible refine SX0.drew ?_) | (simp; done) | omega | (simp; omega))) (fun hHeld => ?_)
    refine WE_take 0 (v := ?_) rfl (by kernel_rfl) (fun _ _ _ h => h) (Or.inl ⟨by rfl, ?_⟩) (by assumption) ?_; rotate_left; (· intro w9 hSw; (try dsimp only at hSw); go_simp; try with_reducible rfl); (try simp only [Act.put, List.setIfInBounds_toArray, List.set_cons_zero, List.set_cons_succ])
    refine WE_take 1 (v := ?_) rfl (by kernel_rfl) (fun _ _ _ h => h) (Or.inl ⟨by rfl, ?_⟩) (by assumption) ?_; rotate_left; (· intro w9 hSw; (try dsimp only at hSw); go_simp; try with_reducible rfl); (try simp only [Act.put, List.setIfInBounds_toArray, List.set_cons_zero, List.set_cons_succ])
    refine WE_take 2 (v := ?_) rfl (by kernel_rfl) (fun _ _ _ h => h) (Or.inl ⟨by rfl, ?_⟩) (by assumption) ?_; rotate_left; (· intro w9 hSw; (try dsimp only at hSw); go_simp; try with_reducible rfl); (try simp only [Act.put, List.setIfInBounds_toArray, List.set_cons_zero, List.set_cons_succ])
    refine WE_take 3 (v := ?_) rfl (by kernel_rfl) (fun _ _ _ h => h) (Or.inl ⟨by rfl, ?_⟩) (by assumption) ?_; rotate_left; (· intro w9 hSw; (try dsimp only at hSw); go_simp; try with_reducible rfl); (try simp only [Act.put, List.setIfInBounds_toArray, List.set_cons_zero, List.set_cons_succ])
    refine WE_take 4 (v := ?_) rfl (by kernel_rfl) (fun _ _ _ h => h) (Or.inl ⟨by rfl, ?_⟩) (by assumption) ?_; rotate_left; (· intro w9 hSw; (try dsimp only at hSw); go_simp; try with_reducible rfl); (try simp only [Act.put, List.setIfInBounds_toArray, List.set_cons_zero, List.set_cons_succ])
    refine WE_take 6 (v := ?_) rfl (by kernel_rfl) (fun _ _ _ h => h) (Or.inl ⟨by rfl, ?_⟩) (by assumption) ?_; rotate_left; (· intro w9 hSw; (try dsimp only at hSw); go_simp; try with_reducible rfl); (try simp only [Act.put, List.setIfInBounds_toArray, List.set_cons_zero, List.set_cons_succ])
    refine WE_take 7 (v := ?_) rfl (by kernel_rfl) (fun _ _ _ h => h) (Or.inl ⟨by rfl, ?_⟩) (by assumption) ?_; rotate_left; (· intro w9 hSw; (try dsimp only at hSw); go_simp; try with_reducible rfl); (try simp only [Act.put, List.setIfInBounds_toArray, List.set_cons_zero, List.set_cons_succ])
    refine WE_take 8 (v := ?_) rfl (by kernel_rfl) (fun _ _ _ h => h) (Or.inl ⟨by rfl, ?_⟩) (by assumption) ?_; rotate_left; (· intro w9 hSw; (try dsimp only at hSw); go_simp; try with_reducible rfl); (try simp only [Act.put, List.setIfInBounds_toArray, List.set_cons_zero, List.set_cons_succ])
    refine WE_step 5 rfl (by kernel_rfl) (fun K hK => ?_)
    go_simp
    (first | (go_at_call 82; with_reducible refine (HN1.out _).mono ?_; rintro e w5 ⟨rfl, hb5⟩) | (go_at_call 82; with_reducible refine (HN2.out _).mono ?_; rintro e w6 ⟨rfl, hb6⟩) | (go_at_call 84; refine (rmore_any E0 nx d0 ux a bb _ (HPV.out.later hHeld.1.toBelow) (by omega)).mono ?_; rintro e w7 ⟨M, cM, rfl, hown7, hk7⟩; have HO7 := Lib.hid hown7; have hb7 := hk7.toBelow; have HK7 := Lib.hid hk7; have HV6 := Lib.hid hHeld.1; clear hown7 hk7))
    (try go_wp2_with fail)
    refine hK.out _ _ ?_ (fun hHeld => ?_)
    · (repeat' first | (with_reducible assumption) | (with_reducible exact SX0.init _) | (with_reducible exact SX0.refl _) | (with_reducible refine SX0.alloc ?_ _) | (with_reducible refine SX0.call ?_ (by assumption)) | (with_reducible refine SX0.set ?_ _ _ _ ?_) | (with_reducible refine SX0.drew ?_) | (simp; done) | omega | (simp; omega))
    clear hK K
    try simp only [Act.put, List.setIfInBounds_toArray, List.set_cons_zero, List.set_cons_succ]
    refine WE_step 9 rfl (by kernel_rfl) (fun K hK => ?_)
    go_simp
    (first | (go_at_call 82; with_reducible refine (HN1.out _).mono ?_; rintro e w5 ⟨rfl, hb5⟩) | (go_at_call 82; with_reducible refine (HN2.out _).mono ?_; rintro e w6 ⟨rfl, hb6⟩) | (go_at_call 84; refine (rmore_any E0 nx d0 ux a bb _ (HPV.out.later hHeld.1.toBelow) (by omega)).mono ?_; rintro e w7 ⟨M, cM, rfl, hown7, hk7⟩; have HO7 := Lib.hid hown7; have hb7 := hk7.toBelow; have HK7 := Lib.hid hk7; have HV6 := Lib.hid hHeld.1; clear hown7 hk7))
    (try go_wp2_with fail)
    refine hK.out _ _ ?_ (fun hHeld => ?_)
    · (repeat' first | (with_reducible assumption) | (with_reducible exact SX0.init _) | (with_reducible exact SX0.refl _) | (with_reducible refine SX0.alloc ?_ _) | (with_reducible refine SX0.call ?_ (by assumption)) | (with_reducible refine SX0.set ?_ _ _ _ ?_) | (with_reducible refine SX0.drew ?_) | (simp; done) | omega | (simp; omega))
    clear hK K
    try simp only [Act.put, List.setIfInBounds_toArray, List.set_cons_zero, List.set_cons_succ]
    refine WE_step 10 rfl (by kernel_rfl) (fun K hK => ?_)
    go_simp
    (first | (go_at_call 82; with_reducible refine (HN1.out _).mono ?_; rintro e w5 ⟨rfl, hb5⟩) | (go_at_call 82; with_reducible refine (HN2.out _).mono ?_; rintro e w6 ⟨rfl, hb6⟩) | (go_at_call 84; refine (rmore_any E0 nx d0 ux a bb _ (HPV.out.later hHeld.1.toBelow) (by omega)).mono ?_; rintro e w7 ⟨M, cM, rfl, hown7, hk7⟩; have HO7 := Lib.hid hown7; have hb7 := hk7.toBelow; have HK7 := Lib.hid hk7; have HV6 := Lib.hid hHeld.1; clear hown7 hk7))
    (try go_wp2_with fail)
    refine hK.out _ _ ?_ (fun hHeld => ?_)
    · (repeat' first | (with_reducible assumption) | (with_reducible exact SX0.init _) | (with_reducible exact SX0.refl _) | (with_reducible refine SX0.alloc ?_ _) | (with_reducible refine SX0.call ?_ (by assumption)) | (with_reducible refine SX0.set ?_ _ _ _ ?_) | (with_reducible refine SX0.drew ?_) | (simp; done) | omega | (simp; omega))
    clear hK K
    try simp only [Act.put, List.setIfInBounds_toArray, List.set_cons_zero, List.set_cons_succ]
    refine WE_take 11 (v := ?_) rfl (by kernel_rfl) (fun _ _ _ h => h) (Or.inl ⟨by rfl, ?_⟩) (by assumption) ?_; rotate_left; (· intro w9 hSw; (try dsimp only at hSw); go_simp; try with_reducible rfl); (try simp only [Act.put, List.setIfInBounds_toArray, List.set_cons_zero, List.set_cons_succ])
    refine WE_last rfl (by kernel_rfl) (fun K hK => ?_)
    go_simp
    refine hK.out _ _ ?_
    clear hK K
    -- MARKXE
    have HV7 : Hid (Kept [] V w7) := Lib.hid (keptTrans HV6.out HK7.out)
    have B7 := HV7.out.blk (by simp) BV
    clear CV FV LV hHeld
    refine then_named (fun X => Blk X q [.int .i64 uf, .slice M (nx + 1) cM, .slice E1 0 d1] ∧ Kept [q] w7 X) ⟨(B7.set 1 _), ((Kept.refl [q] w7).set q 1 _ (.inl (by simp)))⟩ ?_
    rintro X ⟨BX, hkX⟩
    have ⟨LX, CX, FX⟩ := BX
    have hs4V := hkV.size
    have hs47 : w4.heap.size ≤ w7.heap.size := Nat.le_trans hkV.size HV7.out.size
    have HKX4 : Hid (Kept [] w4 X) := Lib.hid ((keptTrans hkV HV7.out).next hkX (fun y hy => .inr (by have := HQ4.out; simp at hy; omega)))
    have HKWX : Hid (Kept [] w X) := Lib.hid (keptTrans (keptTrans HK3.out hk4) HKX4.out)
    have HINX := Lib.hid (HIN.out.keep HKX4.out)
    have hbX : base ≤ X.heap.size := by have := HKWX.out.size; omega
    have hs67 := HK7.out.size
    have hs06 : w.heap.size ≤ w6.heap.size := by have h1 := HV6.out.size; have h2 := HKV.out.size; omega
    have hq6 : q < w6.heap.size := Nat.lt_of_lt_of_le BV.1 HV6.out.size
    have HOM : Hid (X.ownsRow base 72 2 (.slice M (nx + 1) cM) (ux ++ [(⟨a, bb⟩ : Pr)]).length (prC (ux ++ [(⟨a, bb⟩ : Pr)]))) := Lib.hid (by
      have h9 := own_keptT HO7.out hkX (fun x hx hm => by
        have h8 := own_blk HO7.out hx
        obtain rfl : x = q := by simpa using hm
        omega)
      rw [List.length_append, HNX.out]
      exact Go.Joins.ownsRow_le h9 (by omega))
    have HMG : Hid (∀ g, (Value.slice M (nx + 1) cM).ownBlock = some g → w.heap.size ≤ g) := Lib.hid (fun g hg => by have h8 := own_blk HO7.out hg; omega)
    have HOX1 := Lib.hid (own_keptT HR1.out HKWX.out (by simp))
    have HRL : Hid (∀ i c g, i < m + 1 → (R i c).ownBlock = some g → g < w.heap.size) := Lib.hid (fun i c g hi hg => (own_blk (HS.out.row i c hi) hg).2)
    clear BX hkX hkV hk4 hk3V
    go_upto_region 14 with (at_builtin; refine wpList_append_rd _ rfl _ _ 22 rfl base 30 i1 (.agg #[.int .i64 0, .slice none 0 0, .slice none 0 0]) 3 56 Tryz.underlying22 hj hy0 hy1 hy2 rfl (by decide) (.slice B m cB) m _ rfl (own_keptT (X := []) HINX.out.own ((Kept.refl _ _).alloc _) (by simp)) (some ⟨X.heap.size, 0, none⟩) 1 1 [.int .i64 uf, .slice M (nx + 1) cM, .slice E1 0 d1] rfl (new3P _ _ _ _ _ _ rfl) (fun h => by cases h) (by intro u hu; simp at hu; rcases hu with rfl | rfl | rfl <;> rfl) (m + 1) rfl _ rfl (by unfold maxLen; omega) (by omega) (by skip; simp; omega) ?_; intro A9 c9 w9 hown9 hk9 hat9; have HO9 := Lib.hid hown9; have HK9 := Lib.hid hk9; clear hown9 hk9 hat9)
    have HX3 : Hid (∀ y ∈ (Value.slice B m cB).ownBlock.toList, base ≤ y) := Lib.hid (fun y hy => own_ge HINX.out.own (by simpa using hy))
    have HK39 : Hid (Kept (Value.slice B m cB).ownBlock.toList X w9) := Lib.hid (((Kept.refl _ X).alloc _).next HK9.out (fun y hy => .inl hy))
    have HS9 := Lib.hid (HINX.out.push (by decide) (u := ⟨uf, ux ++ [⟨a, bb⟩], []⟩) rfl HO9.out HK39.out HOM.out HOX1.out (fun i c hi g hg => ⟨fun e => by have h1 := HMG.out g e; have h2 := HRL.out i c g (by omega) hg; omega, fun e => HS.out.dif i m c true (by omega) (by omega) (.inl (by omega)) g hg (by rw [HV1.out]; exact e)⟩) (fun g hg e => by have h1 := HMG.out g hg; have h2 := HRL.out m true g (by omega) (by rw [HV1.out]; exact e); omega))
    have HB9 : Hid (Below base w w9) := Lib.hid ((HKWX.out.below0 hbase).trans (keptBelow HK39.out HX3.out hbX))
    have hs9 : base ≤ w9.heap.size := by have := HB9.out.size; omega
    rw [HAD.out] at hE
    obtain ⟨pe, hpe⟩ : ∃ pe, sumErr 1024 (L.dropLast ++ [⟨uf, ux ++ [⟨a, bb⟩], []⟩]) = pe := ⟨_, rfl⟩
    rw [hpe] at hE
    have HCK := Lib.hid (rsumck_any A9 (m + 1) c9 (L.dropLast ++ [⟨uf, ux ++ [⟨a, bb⟩], []⟩]) 1024 w9 HS9.out.sm)
    rw [hpe] at HCK
    clear hpe
    go_wp2_with (go_at_call 12; refine HCK.out.mono ?_; rintro e w10 ⟨rfl, hb10⟩)
    go_ret2
    refine ⟨A9, m + 1, c9, by rw [hE.out, errL_1]; rfl, fun h9 => ?_, HB9.out.trans (((Kept.refl [] w9).call hb10).below0 hs9)⟩
    rw [hE.out] at h9 ⊢
    rw [errL_2 h9]
    exact ⟨_, _, HS9.out.keep ((Kept.refl _ _).call hb10)⟩
  case inr =>
    have HF := Lib.hid hF
    cases hN : numB x1 with
    | none =>
      have hE : Hid (linS L s = (2, [])) := Lib.hid (by rw [HLI.out, hN])
      rw [numI_none hN] at HN1
      clear hN HLI hF
      go_enter Tryz.func48, Tryz.ntmps48
      go_upto_region 2 with (go_at_call 81; refine (HWD.out _).mono ?_; rintro e w1 ⟨W, nW, cW, rfl, hW, hb1⟩)
      have HK1 : Hid (Kept [] w w1) := Lib.hid ((Kept.refl [] w).call hb1)
      obtain ⟨rfl, b, o, rfl, hl, c0, c1, c2⟩ := hW.three
      rw [HF.out] at c0
      replace c0 : w1.cell? ⟨b, o, none⟩ = some (.string ⟨#[116, 104, 114, 111, 119]⟩) := c0
      clear hW
      go_wp2_with (go_at_call 82; with_reducible refine (HN1.out _).mono ?_; rintro e w2 ⟨rfl, hbw2⟩)
      go_ret2
      exact ⟨none, 0, 0, by rw [hE.out]; rfl, fun h9 => (by rw [hE.out] at h9; cases h9), (HK1.out.call hbw2).below0 hbase⟩
    | some a =>
    cases hM : numB x2 with
    | none =>
      have hE : Hid (linS L s = (2, [])) := Lib.hid (by rw [HLI.out, hN, hM])
      rw [numI_some hN] at HN1
      rw [numI_none hM] at HN2
      have ga : decide ((a : Int) < 0) = false := by simp
      clear hN hM HLI hF
      go_enter Tryz.func48, Tryz.ntmps48
      go_upto_region 2 with (go_at_call 81; refine (HWD.out _).mono ?_; rintro e w1 ⟨W, nW, cW, rfl, hW, hb1⟩)
      have HK1 : Hid (Kept [] w w1) := Lib.hid ((Kept.refl [] w).call hb1)
      obtain ⟨rfl, b, o, rfl, hl, c0, c1, c2⟩ := hW.three
      rw [HF.out] at c0
      replace c0 : w1.cell? ⟨b, o, none⟩ = some (.string ⟨#[116, 104, 114, 111, 119]⟩) := c0
      clear hW
      go_upto_region 6 with (first | (go_at_call 82; with_reducible refine (HN1.out _).mono ?_; rintro e w2 ⟨rfl, hbw2⟩; have d2 := (((Kept.refl [] w1).call hbw2).cell b (o + 2) hl (by simp)).trans c2) | (go_at_call 82; with_reducible refine (HN2.out _).mono ?_; rintro e w3 ⟨rfl, hbw3⟩))
      go_wp2_with fail
      go_ret2
      exact ⟨none, 0, 0, by rw [hE.out]; rfl, fun h9 => (by rw [hE.out] at h9; cases h9), ((HK1.out.call hbw2).call hbw3).below0 hbase⟩
    | some bb =>
    rw [numI_some hN] at HN1
    rw [numI_some hM] at HN2
    have ga : decide ((a : Int) < 0) = false := by simp
    have gb : decide ((bb : Int) < 0) = false := by simp
    by_cases hL : L = []
    · have hE : Hid (linS L s = (2, [])) := Lib.hid (by rw [HLI.out, hN, hM]; dsimp only; rw [if_pos hL])
      obtain rfl : n = 0 := by have h9 := HLE.out; rw [hL] at h9; exact h9.symm
      clear hN hM HLI hF hL
      go_enter Tryz.func48, Tryz.ntmps48
      go_upto_region 2 with (go_at_call 81; refine (HWD.out _).mono ?_; rintro e w1 ⟨W, nW, cW, rfl, hW, hb1⟩)
      have HK1 : Hid (Kept [] w w1) := Lib.hid ((Kept.refl [] w).call hb1)
      obtain ⟨rfl, b, o, rfl, hl, c0, c1, c2⟩ := hW.three
      rw [HF.out] at c0
      replace c0 : w1.cell? ⟨b, o, none⟩ = some (.string ⟨#[116, 104, 114, 111, 119]⟩) := c0
      clear hW
      go_upto_region 6 with (first | (go_at_call 82; with_reducible refine (HN1.out _).mono ?_; rintro e w2 ⟨rfl, hbw2⟩; have d2 := (((Kept.refl [] w1).call hbw2).cell b (o + 2) hl (by simp)).trans c2) | (go_at_call 82; with_reducible refine (HN2.out _).mono ?_; rintro e w3 ⟨rfl, hbw3⟩))
      go_wp2_with fail
      go_ret2
      exact ⟨none, 0, 0, by rw [hE.out]; rfl, fun h9 => (by rw [hE.out] at h9; cases h9), ((HK1.out.call hbw2).call hbw3).below0 hbase⟩
    obtain ⟨m, rfl⟩ : ∃ m, n = m + 1 := ⟨n - 1, by have h9 := HLE.out; have : 0 < L.length := List.length_pos_iff.2 hL; omega⟩
    have hLm : L.length - 1 = m := by have h9 := HLE.out; omega
    have g0 : (((m : Int) + 1) == 0) = false := by simp; omega
    obtain ⟨u, hu⟩ : ∃ u, gS L m = u := ⟨_, rfl⟩
    obtain ⟨uf, ux, uy⟩ := u
    have HU := Lib.hid hu
    have HLX : Hid (ux.length ≤ 8192 ∧ uy.length ≤ 8192) := Lib.hid (by
      have h9 := HOK.out.2.2 m (by have := HLE.out; omega)
      rw [hu] at h9
      exact ⟨(ls_ok.1 h9.2.1).1, (ls_ok.1 h9.2.2).1⟩)
    have HR0 := Lib.hid (HS.out.row m false (by omega))
    have HR1 := Lib.hid (HS.out.row m true (by omega))
    rw [hu] at HR0 HR1
    obtain ⟨E0, d0, hv0⟩ := own_shape HR0.out
    obtain ⟨E1, d1, hv1⟩ := own_shape HR1.out
    have hv0 : R m false = .slice E0 ux.length d0 := hv0
    have hv1 : R m true = .slice E1 uy.length d1 := hv1
    have HV0 := Lib.hid hv0
    have HV1 := Lib.hid hv1
    have HLA := Lib.hid (fun (w4 : World) (hk : Kept [] w w4) => rlast_any base A m c L R cs w4 (HS.out.keep hk) (by omega))
    rw [hv0, hv1, hu] at HLA
    rw [hv0] at HR0
    rw [hv1] at HR1
    have HP0 := Lib.hid (Prs.ofOwn HR0.out).1
    have HP1 := Lib.hid (Prs.ofOwn HR1.out).1
    clear hv0 hv1 hu
    have hE : Hid (linS L s = errL (sumErr 1024 (addY L ⟨a, bb⟩)) (addY L ⟨a, bb⟩)) := Lib.hid (by
      rw [HLI.out, hN, hM]
      dsimp only
      rw [if_neg hL, if_pos hF])
    have HAD : Hid (addY L ⟨a, bb⟩ = L.dropLast ++ [⟨uf, ux, uy ++ [⟨a, bb⟩]⟩]) := Lib.hid (by
      unfold addY
      rw [hLm, HU.out])
    obtain ⟨nx, hnx⟩ : ∃ nx, uy.length = nx := ⟨_, rfl⟩
    have HNX := Lib.hid hnx
    have hnx9 : nx ≤ 8192 := by have := HLX.out; omega
    rw [hnx] at HLA HP1
    clear hN hM HLI hF hL
    go_enter Tryz.func48, Tryz.ntmps48
    go_upto_region 2 with (go_at_call 81; refine (HWD.out _).mono ?_; rintro e w1 ⟨W, nW, cW, rfl, hW, hb1⟩)
    have HK1 : Hid (Kept [] w w1) := Lib.hid ((Kept.refl [] w).call hb1)
    obtain ⟨rfl, b, o, rfl, hl, c0, c1, c2⟩ := hW.three
    rw [HF.out] at c0
    replace c0 : w1.cell? ⟨b, o, none⟩ = some (.string ⟨#[116, 104, 114, 111, 119]⟩) := c0
    clear hW
    go_upto_region 7 with (first | (go_at_call 82; with_reducible refine (HN1.out _).mono ?_; rintro e w2 ⟨rfl, hbw2⟩; have d2 := (((Kept.refl [] w1).call hbw2).cell b (o + 2) hl (by simp)).trans c2) | (go_at_call 82; with_reducible refine (HN2.out _).mono ?_; rintro e w3 ⟨rfl, hbw3⟩))
    have HK3 : Hid (Kept [] w w3) := Lib.hid ((HK1.out.call hbw2).call hbw3)
    have hk13 : Kept [] w1 w3 := (((Kept.refl [] w1).call hbw2).call hbw3)
    have hl3 : b < w3.heap.size := Nat.lt_of_lt_of_le hl hk13.size
    have e0 := (hk13.cell b o hl (by simp)).trans c0
    have e1 := (hk13.cell b (o + 1) hl (by simp)).trans c1
    have e2 := (hk13.cell b (o + 2) hl (by simp)).trans c2
    clear c0 c1 c2 d2 hk13
    go_upto_region 8 with (go_at_call 83; refine (HLA.out _ HK3.out).mono ?_; rintro e w4 ⟨B, cB, rfl, hown4, hk4⟩)
    refine wp_named (fun V => ∃ q, w4.heap.size = q ∧ Blk V q [.int .i64 uf, .slice E0 ux.length d0, .slice E1 nx d1] ∧ Kept [] w4 V) ⟨_, rfl, Blk.new _ _ _ _ rfl, (Kept.refl _ _).alloc _⟩ ?_
    rintro V ⟨q, eq, BV, hkV⟩
    rw [eq]
    have ⟨LV, CV, FV⟩ := BV
    have hk3V : Kept [] w3 V := keptTrans hk4 hkV
    have f0 := (hk3V.cell b o hl3 (by simp)).trans e0
    have f1 := (hk3V.cell b (o + 1) hl3 (by simp)).trans e1
    have f2 := (hk3V.cell b (o + 2) hl3 (by simp)).trans e2
    have hlV : b < V.heap.size := Nat.lt_of_lt_of_le hl3 hk3V.size
    have HKV : Hid (Kept [] w V) := Lib.hid (keptTrans HK3.out hk3V)
    have HOB := Lib.hid (own_keptT hown4 hkV (by simp))
    have HPV := Lib.hid (HP1.out.later HKV.out.toBelow)
    have HQ4 : Hid (w4.heap.size = q) := Lib.hid eq
    have hs34 := hk4.size
    have HIN := Lib.hid (HS.out.keep HK3.out |>.init rfl hk4 (Go.Joins.ownsRow_le hown4 (by have := HK3.out.size; omega)))
    clear e0 e1 e2 hown4 eq
    go_upto_region 9 with fail
    -- MARKT
    refine wp_region_E 12 (fun w' => SX0 V w') (by kernel_rfl) (by (repeat' first | (with_reducible assumption) | (with_reducible exact SX0.init _) | (with_reducible exact SX0.refl _) | (with_reducible refine SX0.alloc ?_ _) | (with_reducible refine SX0.call ?_ (by assumption)) | (with_reducible refine SX0.set ?_ _ _ _ ?_) | (with_reducible refine SX0.drew ?_) | (simp; done) | omega | (simp; omega))) (fun hHeld => ?_)
    refine WE_take 0 (v := ?_) rfl (by kernel_rfl) (fun _ _ _ h => h) (Or.inl ⟨by rfl, ?_⟩) (by assumption) ?_; rotate_left; (· intro w9 hSw; (try dsimp only at hSw); go_simp; try with_reducible rfl); (try simp only [Act.put, List.setIfInBounds_toArray, List.set_cons_zero, List.set_cons_succ])
    refine WE_take 1 (v := ?_) rfl (by kernel_rfl) (fun _ _ _ h => h) (Or.inl ⟨by rfl, ?_⟩) (by assumption) ?_; rotate_left; (· intro w9 hSw; (try dsimp only at hSw); go_simp; try with_reducible rfl); (try simp only [Act.put, List.setIfInBounds_toArray, List.set_cons_zero, List.set_cons_succ])
    refine WE_take 2 (v := ?_) rfl (by kernel_rfl) (fun _ _ _ h => h) (Or.inl ⟨by rfl, ?_⟩) (by assumption) ?_; rotate_left; (· intro w9 hSw; (try dsimp only at hSw); go_simp; try with_reducible rfl); (try simp only [Act.put, List.setIfInBounds_toArray, List.set_cons_zero, List.set_cons_succ])
    refine WE_take 3 (v := ?_) rfl (by kernel_rfl) (fun _ _ _ h => h) (Or.inl ⟨by rfl, ?_⟩) (by assumption) ?_; rotate_left; (· intro w9 hSw; (try dsimp only at hSw); go_simp; try with_reducible rfl); (try simp only [Act.put, List.setIfInBounds_toArray, List.set_cons_zero, List.set_cons_succ])
    refine WE_take 4 (v := ?_) rfl (by kernel_rfl) (fun _ _ _ h => h) (Or.inl ⟨by rfl, ?_⟩) (by assumption) ?_; rotate_left; (· intro w9 hSw; (try dsimp only at hSw); go_simp; try with_reducible rfl); (try simp only [Act.put, List.setIfInBounds_toArray, List.set_cons_zero, List.set_cons_succ])
    refine WE_take 6 (v := ?_) rfl (by kernel_rfl) (fun _ _ _ h => h) (Or.inl ⟨by rfl, ?_⟩) (by assumption) ?_; rotate_left; (· intro w9 hSw; (try dsimp only at hSw); go_simp; try with_reducible rfl); (try simp only [Act.put, List.setIfInBounds_toArray, List.set_cons_zero, List.set_cons_succ])
    refine WE_take 7 (v := ?_) rfl (by kernel_rfl) (fun _ _ _ h => h) (Or.inl ⟨by rfl, ?_⟩) (by assumption) ?_; rotate_left; (· intro w9 hSw; (try dsimp only at hSw); go_simp; try with_reducible rfl); (try simp only [Act.put, List.setIfInBounds_toArray, List.set_cons_zero, List.set_cons_succ])
    refine WE_take 8 (v := ?_) rfl (by kernel_rfl) (fun _ _ _ h => h) (Or.inl ⟨by rfl, ?_⟩) (by assumption) ?_; rotate_left; (· intro w9 hSw; (try dsimp only at hSw); go_simp; try with_reducible rfl); (try simp only [Act.put, List.setIfInBounds_toArray, List.set_cons_zero, List.set_cons_succ])
    refine WE_step 5 rfl (by kernel_rfl) (fun K hK => ?_)
    go_simp
    (first | (go_at_call 82; with_reducible refine (HN1.out _).mono ?_; rintro e w5 ⟨rfl, hb5⟩) | (go_at_call 82; with_reducible refine (HN2.out _).mono ?_; rintro e w6 ⟨rfl, hb6⟩) | (go_at_call 84; refine (rmore_any E1 nx d1 uy a bb _ (HPV.out.later hHeld.1.toBelow) (by omega)).mono ?_; rintro e w7 ⟨M, cM, rfl, hown7, hk7⟩; have HO7 := Lib.hid hown7; have hb7 := hk7.toBelow; have HK7 := Lib.hid hk7; have HV6 := Lib.hid hHeld.1; clear hown7 hk7))
    (try go_wp2_with fail)
    refine hK.out _ _ ?_ (fun hHeld => ?_)
    · (repeat' first | (with_reducible assumption) | (with_reducible exact SX0.init _) | (with_reducible exact SX0.refl _) | (with_reducible refine SX0.alloc ?_ _) | (with_reducible refine SX0.call ?_ (by assumption)) | (with_reducible refine SX0.set ?_ _ _ _ ?_) | (with_reducible refine SX0.drew ?_) | (simp; done) | omega | (simp; omega))
    clear hK K
    try simp only [Act.put, List.setIfInBounds_toArray, List.set_cons_zero, List.set_cons_succ]
    refine WE_step 9 rfl (by kernel_rfl) (fun K hK => ?_)
    go_simp
    (first | (go_at_call 82; with_reducible refine (HN1.out _).mono ?_; rintro e w5 ⟨rfl, hb5⟩) | (go_at_call 82; with_reducible refine (HN2.out _).mono ?_; rintro e w6 ⟨rfl, hb6⟩) | (go_at_call 84; refine (rmore_any E1 nx d1 uy a bb _ (HPV.out.later hHeld.1.toBelow) (by omega)).mono ?_; rintro e w7 ⟨M, cM, rfl, hown7, hk7⟩; have HO7 := Lib.hid hown7; have hb7 := hk7.toBelow; have HK7 := Lib.hid hk7; have HV6 := Lib.hid hHeld.1; clear hown7 hk7))
    (try go_wp2_with fail)
    refine hK.out _ _ ?_ (fun hHeld => ?_)
    · (repeat' first | (with_reducible assumption) | (with_reducible exact SX0.init _) | (with_reducible exact SX0.refl _) | (with_reducible refine SX0.alloc ?_ _) | (with_reducible refine SX0.call ?_ (by assumption)) | (with_reducible refine SX0.set ?_ _ _ _ ?_) | (with_reducible refine SX0.drew ?_) | (simp; done) | omega | (simp; omega))
    clear hK K
    try simp only [Act.put, List.setIfInBounds_toArray, List.set_cons_zero, List.set_cons_succ]
    refine WE_step 10 rfl (by kernel_rfl) (fun K hK => ?_)
    go_simp
    (first | (go_at_call 82; with_reducible refine (HN1.out _).mono ?_; rintro e w5 ⟨rfl, hb5⟩) | (go_at_call 82; with_reducible refine (HN2.out _).mono ?_; rintro e w6 ⟨rfl, hb6⟩) | (go_at_call 84; refine (rmore_any E1 nx d1 uy a bb _ (HPV.out.later hHeld.1.toBelow) (by omega)).mono ?_; rintro e w7 ⟨M, cM, rfl, hown7, hk7⟩; have HO7 := Lib.hid hown7; have hb7 := hk7.toBelow; have HK7 := Lib.hid hk7; have HV6 := Lib.hid hHeld.1; clear hown7 hk7))
    (try go_wp2_with fail)
    refine hK.out _ _ ?_ (fun hHeld => ?_)
    · (repeat' first | (with_reducible assumption) | (with_reducible exact SX0.init _) | (with_reducible exact SX0.refl _) | (with_reducible refine SX0.alloc ?_ _) | (with_reducible refine SX0.call ?_ (by assumption)) | (with_reducible refine SX0.set ?_ _ _ _ ?_) | (with_reducible refine SX0.drew ?_) | (simp; done) | omega | (simp; omega))
    clear hK K
    try simp only [Act.put, List.setIfInBounds_toArray, List.set_cons_zero, List.set_cons_succ]
    refine WE_take 11 (v := ?_) rfl (by kernel_rfl) (fun _ _ _ h => h) (Or.inl ⟨by rfl, ?_⟩) (by assumption) ?_; rotate_left; (· intro w9 hSw; (try dsimp only at hSw); go_simp; try with_reducible rfl); (try simp only [Act.put, List.setIfInBounds_toArray, List.set_cons_zero, List.set_cons_succ])
    refine WE_last rfl (by kernel_rfl) (fun K hK => ?_)
    go_simp
    refine hK.out _ _ ?_
    clear hK K
    -- MARKXT
    have HV7 : Hid (Kept [] V w7) := Lib.hid (keptTrans HV6.out HK7.out)
    have B7 := HV7.out.blk (by simp) BV
    clear CV FV LV hHeld
    refine then_named (fun X => Blk X q [.int .i64 uf, .slice E0 ux.length d0, .slice M (nx + 1) cM] ∧ Kept [q] w7 X) ⟨(B7.set 2 _), ((Kept.refl [q] w7).set q 2 _ (.inl (by simp)))⟩ ?_
    rintro X ⟨BX, hkX⟩
    have ⟨LX, CX, FX⟩ := BX
    have hs4V := hkV.size
    have hs47 : w4.heap.size ≤ w7.heap.size := Nat.le_trans hkV.size HV7.out.size
    have HKX4 : Hid (Kept [] w4 X) := Lib.hid ((keptTrans hkV HV7.out).next hkX (fun y hy => .inr (by have := HQ4.out; simp at hy; omega)))
    have HKWX : Hid (Kept [] w X) := Lib.hid (keptTrans (keptTrans HK3.out hk4) HKX4.out)
    have HINX := Lib.hid (HIN.out.keep HKX4.out)
    have hbX : base ≤ X.heap.size := by have := HKWX.out.size; omega
    have hs67 := HK7.out.size
    have hs06 : w.heap.size ≤ w6.heap.size := by have h1 := HV6.out.size; have h2 := HKV.out.size; omega
    have hq6 : q < w6.heap.size := Nat.lt_of_lt_of_le BV.1 HV6.out.size
    have HOM : Hid (X.ownsRow base 72 2 (.slice M (nx + 1) cM) (uy ++ [(⟨a, bb⟩ : Pr)]).length (prC (uy ++ [(⟨a, bb⟩ : Pr)]))) := Lib.hid (by
      have h9 := own_keptT HO7.out hkX (fun x hx hm => by
        have h8 := own_blk HO7.out hx
        obtain rfl : x = q := by simpa using hm
        omega)
      rw [List.length_append, HNX.out]
      exact Go.Joins.ownsRow_le h9 (by omega))
    have HMG : Hid (∀ g, (Value.slice M (nx + 1) cM).ownBlock = some g → w.heap.size ≤ g) := Lib.hid (fun g hg => by have h8 := own_blk HO7.out hg; omega)
    have HOX0 := Lib.hid (own_keptT HR0.out HKWX.out (by simp))
    have HRL : Hid (∀ i c g, i < m + 1 → (R i c).ownBlock = some g → g < w.heap.size) := Lib.hid (fun i c g hi hg => (own_blk (HS.out.row i c hi) hg).2)
    clear BX hkX hkV hk4 hk3V
    go_upto_region 14 with (at_builtin; refine wpList_append_rd _ rfl _ _ 22 rfl base 30 i1 (.agg #[.int .i64 0, .slice none 0 0, .slice none 0 0]) 3 56 Tryz.underlying22 hj hy0 hy1 hy2 rfl (by decide) (.slice B m cB) m _ rfl (own_keptT (X := []) HINX.out.own ((Kept.refl _ _).alloc _) (by simp)) (some ⟨X.heap.size, 0, none⟩) 1 1 [.int .i64 uf, .slice E0 ux.length d0, .slice M (nx + 1) cM] rfl (new3P _ _ _ _ _ _ rfl) (fun h => by cases h) (by intro u hu; simp at hu; rcases hu with rfl | rfl | rfl <;> rfl) (m + 1) rfl _ rfl (by unfold maxLen; omega) (by omega) (by skip; simp; omega) ?_; intro A9 c9 w9 hown9 hk9 hat9; have HO9 := Lib.hid hown9; have HK9 := Lib.hid hk9; clear hown9 hk9 hat9)
    have HX3 : Hid (∀ y ∈ (Value.slice B m cB).ownBlock.toList, base ≤ y) := Lib.hid (fun y hy => own_ge HINX.out.own (by simpa using hy))
    have HK39 : Hid (Kept (Value.slice B m cB).ownBlock.toList X w9) := Lib.hid (((Kept.refl _ X).alloc _).next HK9.out (fun y hy => .inl hy))
    have HS9 := Lib.hid (HINX.out.push (by decide) (u := ⟨uf, ux, uy ++ [⟨a, bb⟩]⟩) rfl HO9.out HK39.out HOX0.out HOM.out (fun i c hi g hg => ⟨fun e => HS.out.dif i m c false (by omega) (by omega) (.inl (by omega)) g hg (by rw [HV0.out]; exact e), fun e => by have h1 := HMG.out g e; have h2 := HRL.out i c g (by omega) hg; omega⟩) (fun g hg e => by have h1 := HMG.out g e; have h2 := HRL.out m false g (by omega) (by rw [HV0.out]; exact hg); omega))
    have HB9 : Hid (Below base w w9) := Lib.hid ((HKWX.out.below0 hbase).trans (keptBelow HK39.out HX3.out hbX))
    have hs9 : base ≤ w9.heap.size := by have := HB9.out.size; omega
    rw [HAD.out] at hE
    obtain ⟨pe, hpe⟩ : ∃ pe, sumErr 1024 (L.dropLast ++ [⟨uf, ux, uy ++ [⟨a, bb⟩]⟩]) = pe := ⟨_, rfl⟩
    rw [hpe] at hE
    have HCK := Lib.hid (rsumck_any A9 (m + 1) c9 (L.dropLast ++ [⟨uf, ux, uy ++ [⟨a, bb⟩]⟩]) 1024 w9 HS9.out.sm)
    rw [hpe] at HCK
    clear hpe
    go_wp2_with (go_at_call 12; refine HCK.out.mono ?_; rintro e w10 ⟨rfl, hb10⟩)
    go_ret2
    refine ⟨A9, m + 1, c9, by rw [hE.out, errL_1]; rfl, fun h9 => ?_, HB9.out.trans (((Kept.refl [] w9).call hb10).below0 hs9)⟩
    rw [hE.out] at h9 ⊢
    rw [errL_2 h9]
    exact ⟨_, _, HS9.out.keep ((Kept.refl _ _).call hb10)⟩
end Go.Proofs.YtooejoajojanjaaGreatDoor
namespace Go.Df.If
open Go.RowKit Go.Df
def parF (n : Nat) (L : List Su) (s : Bs) : List Su × Int × Int := parR (s.length + 1) n L s
theorem parF_nil (n : Nat) (L : List Su) : parF n L [] = (L, 0, 0) := by
  unfold parF
  rw [parR, if_pos rfl]
theorem cut_at {s : Bs} {f i : Nat} (hf : f ≤ i) (hi : i < s.length) (hno : ∀ j, f ≤ j → j < i → byt s j ≠ 10) (h10 : byt s i = 10) : cutN (s.drop f) = some ((s.drop f).take (i - f), s.drop (i + 1)) := by
  have e1 : s.drop f = (s.drop f).take (i - f) ++ 10 :: s.drop (i + 1) := by
    have h1 : (s.drop f).drop (i - f) = s.drop i := by rw [List.drop_drop]; congr 1; omega
    have h2 : s.drop i = 10 :: s.drop (i + 1) := by
      rw [List.drop_eq_getElem_cons hi]
      rw [← bs_get2 s i hi] at h10
      rw [h10]
    rw [← h2, ← h1, List.take_append_drop]
  have h3 : ∀ c ∈ (s.drop f).take (i - f), c ≠ 10 := fun c hc => by
    obtain ⟨j, hj, rfl⟩ := List.getElem_of_mem hc
    rw [List.length_take] at hj
    rw [List.getElem_take, List.getElem_drop, bs_get2]
    exact hno _ (by omega) (by omega)
  exact (congrArg cutN e1).trans (cutN_app h3)
theorem cut_no : ∀ {s : Bs}, (∀ c ∈ s, c ≠ 10) → cutN s = none
  | [], _ => rfl
  | c :: s, h => by
    have hc : c ≠ 10 := h c (by simp)
    simp [cutN, hc, cut_no (s := s) (fun x hx => h x (List.mem_cons_of_mem _ hx))]
theorem parF_some {n : Nat} {L : List Su} {s a r : Bs} (h : cutN s = some (a, r)) : parF n L s = if (linS L a).1 ≠ 0 then ([], (n : Int), (linS L a).1) else parF (n + 1) (linS L a).2 r := by
  have hl := congrArg List.length (cutN_len h)
  simp at hl
  unfold parF
  rw [parR, if_neg (by intro e; rw [e] at h; cases h), h]
  dsimp only
  split
  · rfl
  · exact parR_fuel _ _ _ _ _ (by omega) (by omega)
theorem parF_none {n : Nat} {L : List Su} {s : Bs} (h0 : s ≠ []) (h : cutN s = none) : parF n L s = ([], (n : Int), 21) := by
  unfold parF
  rw [parR, if_neg h0, h]
theorem parF_at {n : Nat} {L : List Su} {s : Bs} {f i : Nat} (hf : f ≤ i) (hi : i < s.length) (hno : ∀ j, f ≤ j → j < i → byt s j ≠ 10) (h10 : byt s i = 10) : parF n L (s.drop f) = if (linS L ((s.drop f).take (i - f))).1 ≠ 0 then ([], (n : Int), (linS L ((s.drop f).take (i - f))).1) else parF (n + 1) (linS L ((s.drop f).take (i - f))).2 (s.drop (i + 1)) := parF_some (cut_at hf hi hno h10)
theorem parF_end {n : Nat} {L : List Su} {s : Bs} {f : Nat} (hf : f < s.length) (hno : ∀ j, f ≤ j → j < s.length → byt s j ≠ 10) : parF n L (s.drop f) = ([], (n : Int), 21) := parF_none (by intro e; have := congrArg List.length e; simp at this; omega) (cut_no fun c hc => by
  obtain ⟨j, hj, rfl⟩ := List.getElem_of_mem hc
  rw [List.length_drop] at hj
  rw [List.getElem_drop, bs_get2]
  exact hno _ (by omega) (by omega))
theorem lin_ok {L : List Su} {s : Bs} (h : (linS L s).1 = 0) : sumErr 1024 (linS L s).2 = 0 := (lin_back (M' := (linS L s).2) (Prod.ext h rfl)).2
/-- A list of summaries comes back, with a line and an error. -/
def GetL (w : World) (r : List Su × Int × Int) (e : Ending) (w' : World) : Prop := ∃ A n c, e = .returned (.tuple #[.slice A n c, .int .i64 r.2.1, .int .i64 r.2.2]) ∧ SmW w' A n r.1 ∧ Below w.heap.size w w'
end Go.Df.If
namespace Go.Proofs.YtooejoajojanjaaGreatDoor
open Go.RowKit Go.Df Go.Df.If
attribute [local go_sem ↓] Go.wp_at_zero Go.wp_at_succ
attribute [local go_sem] bs_get bs_get2
set_option maxRecDepth 100000 in
set_option maxHeartbeats 8000000 in
theorem rParse_any (s : Bs) (w : World) (hs : s.length ≤ 9223372036854775807) :
    Calls Tryz.prog 21 #[.string ⟨s.toArray⟩] w (GetL w (parS s)) := by
  obtain ⟨ln, hln⟩ : ∃ ln, s.length = ln := ⟨_, rfl⟩
  have HLN := Lib.hid hln
  by_cases hbig : 65536 < ln
  · have g1 : decide ((65536 : Int) < (ln : Int)) = true := by simp; omega
    have hE : Hid (parS s = ([], 0, 3)) := Lib.hid (by unfold parS; rw [if_pos (by omega)])
    clear hbig HLN
    go_enter Tryz.func21, Tryz.ntmps21
    go_wp2_with fail
    go_ret3
    rw [hE.out]
    exact ⟨none, 0, 0, rfl, ⟨rfl, fun h => absurd h (by omega)⟩, Below.refl _ _⟩
  have g1 : decide ((65536 : Int) < (ln : Int)) = false := by simp; omega
  have HE0 : Hid (parF 1 [] s = parS s) := Lib.hid (by unfold parS parF; rw [if_neg (by omega)])
  have hln9 : ln ≤ 65536 := by omega
  clear hbig hs
  go_enter Tryz.func21, Tryz.ntmps21
  go_wp2_with fail
  go_loopw [5, 6, 7, 8] (fun s5 s6 s7 s8 wr => ∃ (i f k : Nat) (A : Option Addr) (n c : Nat) (L : List Su) (R : Nat → Bool → Value) (cs : List Value), i ≤ ln ∧ f ≤ i ∧ k ≤ i ∧ s8 = .int .i64 i ∧ s7 = .int .i64 k ∧ s6 = .int .i64 f ∧ s5 = .slice A n c ∧ Hid (SmO wr w.heap.size 30 72 A n c L R cs) ∧ Hid (sumErr 1024 L = 0) ∧ Hid (parF (k + 1) L (s.drop f) = parS s) ∧ Hid (Below w.heap.size w wr) ∧ Hid (∀ j, f ≤ j → j < i → byt s j ≠ 10)) (fun _ _ _ s8 _ => ln - (intOf s8).toNat)
  case atStart => exact ⟨0, 0, 0, none, 0, 0, [], fun _ _ => .nilIface, [], Nat.zero_le _, Nat.le_refl _, Nat.le_refl _, rfl, rfl, rfl, rfl, Lib.hid (SmO.nil _ _ _ _ _), Lib.hid sum_nil, HE0, Lib.hid (Below.refl _ _), Lib.hid (fun j h1 h2 => absurd h2 (by omega))⟩
  case round =>
  obtain ⟨i, f, k, A, n, c, L, R, cs, hi, hf, hk, rfl, rfl, rfl, rfl, HS, HOK, HP, HB, HNO⟩ := hrel
  have hsz := HB.out.size
  by_cases hlt : i < ln
  case neg =>
    obtain rfl : i = ln := by omega
    by_cases hfl : f < i
    · have g2 : decide ((f : Int) < (i : Int)) = true := by simp; omega
      have hE : Hid (parS s = ([], ((k + 1 : Nat) : Int), 21)) := Lib.hid (by
        rw [← HP.out]
        exact parF_end (by rw [HLN.out]; exact hfl) (fun j h1 h2 => HNO.out j h1 (by rw [← HLN.out]; exact h2)))
      go_wp2_with fail
      go_ret3
      rw [hE.out]
      exact ⟨none, 0, 0, rfl, ⟨rfl, fun h => absurd h (by omega)⟩, HB.out⟩
    · have g2 : decide ((f : Int) < (i : Int)) = false := by simp; omega
      have hE : Hid (parS s = (L, 0, 0)) := Lib.hid (by
        rw [← HP.out, List.drop_of_length_le (by rw [HLN.out]; omega)]
        exact parF_nil _ _)
      go_wp2_with fail
      go_ret3
      rw [hE.out]
      exact ⟨A, n, c, rfl, HS.out.sm, HB.out⟩
  have hi9 : (i : Int) < (ln : Int) := by omega
  obtain ⟨ch, hc⟩ : ∃ ch, byt s i = ch := ⟨_, rfl⟩
  have HC := Lib.hid hc
  by_cases h10 : ch.toNat = 10
  case neg =>
    have g2 : ((ch.toNat : Int) != 10) = true := by simp; omega
    have HN2 : Hid (∀ j, f ≤ j → j < i + 1 → byt s j ≠ 10) := Lib.hid (fun j h1 h2 => by
      by_cases e : j = i
      · rw [e]; exact fun h => h10 ((byt_eq (k := 10) HC.out (by decide)).1 h)
      · exact HNO.out j h1 (by omega))
    go_wp2_with fail
    exact ⟨⟨i + 1, f, k, A, n, c, L, R, cs, by omega, by omega, by omega, by go_num, rfl, rfl, rfl, HS, HOK, HP, HB, HN2⟩, by simp [intOf]; omega⟩
  have g2 : ((ch.toNat : Int) != 10) = false := by simp; omega
  obtain ⟨a, ha⟩ : ∃ a, (s.drop f).take (i - f) = a := ⟨_, rfl⟩
  have HPA : Hid (parF (k + 1) L (s.drop f) = if (linS L a).1 ≠ 0 then ([], ((k + 1 : Nat) : Int), (linS L a).1) else parF (k + 1 + 1) (linS L a).2 (s.drop (i + 1))) := Lib.hid (by
    have h9 := parF_at (n := k + 1) (L := L) hf (by rw [HLN.out]; exact hlt) HNO.out ((byt_eq (k := 10) HC.out (by decide)).2 h10)
    rw [ha] at h9
    exact h9)
  have hext : ByteArray.extract ⟨s.toArray⟩ f i = ⟨a.toArray⟩ := by rw [ext_cut, ha]
  have hal : a.length ≤ 100000 := by rw [← ha]; simp; omega
  have HLI := Lib.hid (rline_any w.heap.size A n c L a R cs wr HS.out HOK.out hal hsz)
  have HLO := Lib.hid (lin_ok (L := L) (s := a))
  obtain ⟨r, hr⟩ : ∃ r, linS L a = r := ⟨_, rfl⟩
  rw [hr] at HPA HLI HLO
  obtain ⟨pe, L2⟩ := r
  clear ha hal hr
  -- MARK1
  go_upto_region 12 with (go_at_call 48; refine HLI.out.mono ?_; rintro e w2 ⟨A2, n2, c2, rfl, hS2, hb2⟩)
  have HS2 := Lib.hid hS2
  have HB2 : Hid (Below w.heap.size w w2) := Lib.hid (HB.out.trans hb2)
  clear hS2
  by_cases h0 : pe = 0
  case neg =>
    have d0 : (pe != 0) = true := by simpa using h0
    have hE : Hid (parS s = ([], ((k + 1 : Nat) : Int), pe)) := Lib.hid (by rw [← HP.out, HPA.out, if_pos h0])
    clear h0
    go_wp2_with fail
    go_ret3
    rw [hE.out]
    exact ⟨none, 0, 0, rfl, ⟨rfl, fun h => absurd h (by omega)⟩, HB2.out⟩
  subst h0
  have HP2 : Hid (parF (k + 1 + 1) L2 (s.drop (i + 1)) = parS s) := Lib.hid (by rw [← HP.out, HPA.out, if_neg (by simp)])
  obtain ⟨R2, cs2, hS3⟩ := HS2.out rfl
  have HS3 := Lib.hid hS3
  have HO3 := Lib.hid (HLO.out rfl)
  clear hS3
  -- MARK2
  go_wp2_with fail
  exact ⟨⟨i + 1, i + 1, k + 1, A2, n2, c2, L2, R2, cs2, by omega, Nat.le_refl _, by omega, by go_num, by go_num, by go_num, rfl, HS3, HO3, HP2, HB2, Lib.hid (fun j h1 h2 => absurd h2 (by omega))⟩, by simp [intOf]; omega⟩
end Go.Proofs.YtooejoajojanjaaGreatDoor
