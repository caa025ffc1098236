/- A pack of texts: Kj. -/
import Derived.Test.YtmbihjlflcjlnaaGreatZo
import Derived.Test.YtmbihjlflcjlnaaGreatZa
import Derived.Test.YtmbihjlflcjlnaaGreatZi
import Derived.Test.YtmbihjlflcjlnaaGreatZe
import Derived.Test.YtmbihjlflcjlnaaGreatZv
/- Solve for any problem; the closed example of the laws about IFDS problems. -/
namespace Go.Df
open Go.RowKit
namespace If
theorem p1_R0 : solR p1 0 = true := (solR_eq (b := true) ⟨fun _ => p1_00, fun _ => rfl⟩).symm
theorem p1_R2 : solR p1 2 = true := (solR_eq (b := true) ⟨fun _ => p1_20, fun _ => rfl⟩).symm
theorem p1_R3 : solR p1 3 = false := (solR_eq (b := false) ⟨fun h => (by cases h), fun h => (by have := (p1_pe h).2.1; omega)⟩).symm
open Classical in
theorem p1_F (i : Nat) : solF p1 i = if ∃ a, PE p1 a i 1 then [1] else [] := by
  have e : p1.F.toNat = 2 := rfl
  unfold solF
  rw [e, show List.range 2 = [0, 1] from rfl]
  by_cases h : ∃ a, PE p1 a i 1
  · rw [if_pos h]; simp [h, ofNats]
  · rw [if_neg h]; simp [h, ofNats]
theorem p1_F0 : solF p1 0 = [] := by rw [p1_F, if_neg]; rintro ⟨a, h⟩; have := (p1_pe h).2.2; omega
theorem p1_F1 : solF p1 1 = [1] := by rw [p1_F, if_pos ⟨0, p1_11⟩]
theorem p1_F2 : solF p1 2 = [1] := by rw [p1_F, if_pos ⟨0, p1_21⟩]
end If
end Go.Df
namespace Go.Proofs.YtmbihjlflcjlnaaGreat
open Go.RowKit Go.Df Go.Df.If
attribute [local go_sem ↓] Go.wp_at_zero Go.wp_at_succ

set_option maxRecDepth 100000 in
set_option maxHeartbeats 4000000 in
theorem solve_err (A1 A2 A3 A4 : Option Addr) (n1 c1 n2 c2 n3 c3 n4 c4 : Nat) (mn F pe : Int) (w : World) (h0 : pe ≠ 0)
    (hchk : ∀ w1, Below w.heap.size w w1 → Calls Tryz.prog 24 #[.agg #[.slice A1 n1 c1, .slice A2 n2 c2, .int .i64 mn, .int .i64 F, .slice A3 n3 c3, .slice A4 n4 c4]] w1 fun e w' => e = .returned (.int .i64 pe) ∧ Below w1.heap.size w1 w') :
    Calls Tryz.prog 29 #[.agg #[.slice A1 n1 c1, .slice A2 n2 c2, .int .i64 mn, .int .i64 F, .slice A3 n3 c3, .slice A4 n4 c4]] w fun e w' => e = .returned (.tuple #[.agg #[.slice none 0 0, .slice none 0 0], .int .i64 pe]) ∧ Below w.heap.size w w' := by
  have HCHK := Lib.hid hchk
  have h0' : (pe != 0) = true := by simpa using h0
  clear hchk h0
  go_enter Tryz.func29, Tryz.ntmps29
  go_upto_region 1 with fail
  refine wp_named (fun W => ∃ b0 b1, w.heap.size = b0 ∧ w.heap.size + 1 = b1 ∧ Blk W b0 [.slice A1 n1 c1, .slice A2 n2 c2, .int .i64 mn, .int .i64 F, .slice A3 n3 c3, .slice A4 n4 c4] ∧ Blk W b1 [.slice none 0 0, .slice none 0 0] ∧ Below w.heap.size w W) ⟨_, _, rfl, rfl, ?_, ?_, ?_⟩ ?_
  · exact (Blk.new _ _ _ _ (by first | rfl | simp)).alloc _
  · exact Blk.new _ _ _ _ (by first | rfl | simp)
  · go_grown
  rintro W ⟨b0, b1, e0, e1, B0, B1, hB⟩
  rw [e1, e0]
  have G0 : w.heap.size ≤ b0 := by omega
  have n01 : b0 ≠ b1 := by omega
  have G1 : w.heap.size ≤ b1 := by omega
  have n10 : b1 ≠ b0 := by omega
  clear e0 e1
  have ⟨L0, C0, F0⟩ := B0
  have ⟨L1, C1, F1⟩ := B1
  go_upto_region 2 with (go_at_call 24; refine (HCHK.out _ hB).mono ?_; rintro e w1 ⟨rfl, hb1⟩)
  have hk1 : Kept [] W w1 := (Kept.refl _ _).call hb1
  have B11 := hk1.blk (by simp) B1
  have ⟨L11, C11, F11⟩ := B11
  have hB1 := hk1.below hB hB.size (by simp)
  clear C1 F1
  go_wp2_with fail
  refine retNamed (fun X => Blk X b1 [.slice none 0 0, .slice none 0 0] ∧ Kept [b1] w1 X) ⟨(B11.set 0 _).set 1 _, ((Kept.refl [b1] w1).set b1 0 _ (.inl (by simp))).set b1 1 _ (.inl (by simp))⟩ ?_
  rintro X ⟨BX, hkX⟩
  have ⟨LX, CX, FX⟩ := BX
  refine bodyPost_ret (by simp [results, Tryz.results29, go_sem, CX]; try rfl) rfl ?_
  exact ⟨rfl, hkX.below hB1 hB1.size (by simpa using G1)⟩

theorem solve_any {p : Pb} (A1 A2 A3 A4 : Option Addr) (n1 c1 n2 c2 n3 c3 n4 c4 : Nat) (w : World) (hG : Gr w A1 n1 A2 n2 p.ns p.es) (hF : Flw w A3 n3 p.fl) (hS : Sds w A4 n4 p.sd) (hn4 : n4 ≤ 1000000) (pe : Int) (hpe : pbErr p = pe) (h0 : pe = 0) :
    Calls Tryz.prog 29 #[.agg #[.slice A1 n1 c1, .slice A2 n2 c2, .int .i64 p.mn, .int .i64 p.F, .slice A3 n3 c3, .slice A4 n4 c4]] w (GetSol p w) := by
  subst h0
  have ho := ok_of hpe
  have hm := main_in (sup_parts ho.sup).2.2.1
  obtain ⟨mN, hmN⟩ : ∃ mN : Nat, p.mn = mN := ⟨p.mn.toNat, by omega⟩
  have := solve_ok A1 A2 A3 A4 n1 c1 n2 c2 n3 c3 n4 c4 mN p.F w hmN rfl hG.nd hG.ed hF hS ho hn4 (fun w1 hb1 => by
    have h1 := ifdsck_any A1 A2 A3 A4 n1 c1 n2 c2 n3 c3 n4 c4 p.mn p.F p.ns p.es p.fl p.sd w1 (hG.nd.later hb1) (hG.ed.later hb1) (hF.later hb1) (hS.later hb1) (by omega) hG.wn hG.we
    have e : pbErr ⟨p.ns, p.es, p.mn, p.F, p.fl, p.sd⟩ = 0 := hpe
    rw [e, hmN] at h1
    exact h1)
  rw [← hmN] at this
  exact this

theorem solve_bad {p : Pb} (A1 A2 A3 A4 : Option Addr) (n1 c1 n2 c2 n3 c3 n4 c4 : Nat) (w : World) (hG : Gr w A1 n1 A2 n2 p.ns p.es) (hF : Flw w A3 n3 p.fl) (hS : Sds w A4 n4 p.sd) (hn4 : n4 ≤ 9223372036854775807) (pe : Int) (hpe : pbErr p = pe) (h0 : pe ≠ 0) :
    Calls Tryz.prog 29 #[.agg #[.slice A1 n1 c1, .slice A2 n2 c2, .int .i64 p.mn, .int .i64 p.F, .slice A3 n3 c3, .slice A4 n4 c4]] w fun e w' => e = .returned (.tuple #[.agg #[.slice none 0 0, .slice none 0 0], .int .i64 pe]) ∧ Below w.heap.size w w' :=
  solve_err A1 A2 A3 A4 n1 c1 n2 c2 n3 c3 n4 c4 p.mn p.F pe w h0 (fun w1 hb1 => by
    have h1 := ifdsck_any A1 A2 A3 A4 n1 c1 n2 c2 n3 c3 n4 c4 p.mn p.F p.ns p.es p.fl p.sd w1 (hG.nd.later hb1) (hG.ed.later hb1) (hF.later hb1) (hS.later hb1) hn4 hG.wn hG.we
    have e : pbErr ⟨p.ns, p.es, p.mn, p.F, p.fl, p.sd⟩ = pe := hpe
    rw [e] at h1
    exact h1)

theorem prs2 {w : World} {b : Nat} {a c d e : Int} (h : Blk w b [.int .i64 a, .int .i64 c, .int .i64 d, .int .i64 e]) : Prs w (some ⟨b, 0, none⟩) 2 [⟨a, c⟩, ⟨d, e⟩] :=
  ⟨rfl, fun _ => ⟨b, 0, rfl, h.1, fun i hi => by
    match i, hi with
    | 0, _ => exact ⟨h.2.1 0, h.2.1 1⟩
    | 1, _ => exact ⟨h.2.1 2, h.2.1 3⟩⟩⟩

set_option maxRecDepth 100000 in
set_option maxHeartbeats 4000000 in
theorem one_any (w : World) : Calls Tryz.prog 30 #[] w fun e w' => ∃ A1 A2 A3, e = .returned (.agg #[.slice A1 4 4, .slice A2 2 2, .int .i64 0, .int .i64 2, .slice A3 2 2, .slice none 0 0]) ∧ Gr w' A1 4 A2 2 p1.ns p1.es ∧ Flw w' A3 2 p1.fl ∧ Below w.heap.size w w' := by
  go_enter Tryz.func30, Tryz.ntmps30
  go_wp2_with fail
  refine retNamed (fun X => ∃ r0 bn be f0 f1 fl, w.heap.size = r0 ∧ w.heap.size + 1 = bn ∧ w.heap.size + 1 + 1 + 1 = be ∧ w.heap.size + 1 + 1 + 1 + 1 = f0 ∧ w.heap.size + 1 + 1 + 1 + 1 + 1 = f1 ∧ w.heap.size + 1 + 1 + 1 + 1 + 1 + 1 = fl ∧
    Blk X r0 [.slice (some ⟨bn, 0, none⟩) 4 4, .slice (some ⟨be, 0, none⟩) 2 2, .int .i64 0, .int .i64 2, .slice (some ⟨fl, 0, none⟩) 2 2, .slice none 0 0] ∧
    Blk X bn [.int .i64 0, .int .i64 1, .int .i64 (-1), .int .i64 0, .int .i64 2, .int .i64 0, .int .i64 0, .int .i64 3, .int .i64 (-1), .int .i64 0, .int .i64 4, .int .i64 (-1)] ∧
    Blk X be [.int .i64 0, .int .i64 1, .int .i64 1, .int .i64 (-1), .int .i64 1, .int .i64 2, .int .i64 1, .int .i64 (-1)] ∧
    Blk X f0 [.int .i64 0, .int .i64 0, .int .i64 0, .int .i64 1] ∧ Blk X f1 [.int .i64 0, .int .i64 0, .int .i64 1, .int .i64 1] ∧ Blk X fl [.slice (some ⟨f0, 0, none⟩) 2 2, .slice (some ⟨f1, 0, none⟩) 2 2] ∧ Below w.heap.size w X) ⟨_, _, _, _, _, _, rfl, rfl, rfl, rfl, rfl, rfl, ?_, ?_, ?_, ?_, ?_, ?_, ?_⟩ ?_
  iterate 6 (· repeat' first | ((with_reducible refine Blk.new _ _ _ _ ?_); simp; done) | (with_reducible refine Blk.alloc ?_ _))
  · go_grown
  rintro X ⟨r0, bn, be, f0, f1, fl, e0, e1, e2, e3, e4, e5, BR, BN, BE, BF0, BF1, BFL, hb⟩
  rw [e0] at hb ⊢
  have ⟨LX, CX, FX⟩ := BR
  refine bodyPost_ret (by simp [results, Tryz.results30, go_sem, CX]; try rfl) rfl ?_
  refine ⟨_, _, _, rfl, ⟨⟨rfl, fun _ => ⟨bn, 0, rfl, BN.1, fun i hi => ?_⟩⟩, ⟨rfl, fun _ => ⟨be, 0, rfl, BE.1, fun i hi => ?_⟩⟩, fun i hi => ?_, fun i hi => ?_⟩, ⟨rfl, fun _ => ⟨fl, 0, rfl, BFL.1, fun i hi => ?_⟩⟩, hb⟩
  · match i, hi with
    | 0, _ => exact ⟨BN.2.1 0, BN.2.1 1, BN.2.1 2⟩
    | 1, _ => exact ⟨BN.2.1 3, BN.2.1 4, BN.2.1 5⟩
    | 2, _ => exact ⟨BN.2.1 6, BN.2.1 7, BN.2.1 8⟩
    | 3, _ => exact ⟨BN.2.1 9, BN.2.1 10, BN.2.1 11⟩
  · match i, hi with
    | 0, _ => exact ⟨BE.2.1 0, BE.2.1 1, BE.2.1 2, BE.2.1 3⟩
    | 1, _ => exact ⟨BE.2.1 4, BE.2.1 5, BE.2.1 6, BE.2.1 7⟩
  · match i, hi with
    | 0, _ => rfl
    | 1, _ => rfl
    | 2, _ => rfl
    | 3, _ => rfl
  · match i, hi with
    | 0, _ => exact ⟨rfl, rfl⟩
    | 1, _ => exact ⟨rfl, rfl⟩
  · match i, hi with
    | 0, _ => exact ⟨_, _, _, BFL.2.1 0, by omega, prs2 BF0⟩
    | 1, _ => exact ⟨_, _, _, BFL.2.1 1, by omega, prs2 BF1⟩

theorem solve_p1 (A1 A2 A3 : Option Addr) (w : World) (hG : Gr w A1 4 A2 2 p1.ns p1.es) (hF : Flw w A3 2 p1.fl) :
    Calls Tryz.prog 29 #[.agg #[.slice A1 4 4, .slice A2 2 2, .int .i64 0, .int .i64 2, .slice A3 2 2, .slice none 0 0]] w (GetSol p1 w) :=
  solve_any (p := p1) A1 A2 A3 none 4 4 2 2 2 2 0 0 w hG hF ⟨rfl, fun h => absurd h (by omega)⟩ (by omega) 0 p1_err rfl

set_option maxRecDepth 100000 in
set_option maxHeartbeats 4000000 in
theorem knows_any (w : World) : Calls Tryz.prog 11 #[] w fun e w' => e = .returned (.bool true) ∧ Below w.heap.size w w' := by
  go_enter Tryz.func11, Tryz.ntmps11
  go_upto_region 2 with (first
    | (go_at_call 30; refine (one_any _).mono ?_; rintro e w1 ⟨A1, A2, A3, rfl, hG1, hF1, hb1⟩; have HG1 := Lib.hid hG1; have HF1 := Lib.hid hF1; clear hG1 hF1)
    | (go_at_call 29; refine (solve_p1 A1 A2 A3 _ HG1.out HF1.out).mono ?_; rintro e w2 ⟨B1, B2, n, rfl, hn, hr, hf, hb2⟩))
  have hn4 : n = 4 := hn
  subst hn4
  clear hn
  have HR := Lib.hid hr
  have HF := Lib.hid hf
  refine wp_named (fun V => ∃ g, w2.heap.size = g ∧ Blk V g [.slice B1 4 4, .slice B2 4 4] ∧ Kept [] w2 V) ⟨_, rfl, Blk.new _ _ _ _ rfl, (Kept.refl _ _).alloc _⟩ ?_
  rintro V ⟨g, eg, Bg, hkV⟩
  rw [eg]
  have ⟨LG, CG, FG⟩ := Bg
  have hwV : Kept [] w V := ((((Kept.refl [] w).call hb1).call hb2).next hkV (by simp))
  have HRV := Lib.hid (hr.later hkV.toBelow)
  have HFV := Lib.hid (hf.later hkV.toBelow)
  obtain ⟨q1, o1, rfl, l1, k1⟩ := (hr.later hkV.toBelow).2 (by omega)
  obtain ⟨q2, o2, rfl, l2, k2⟩ := (hf.later hkV.toBelow).2 (by omega)
  have x0 : V.cell? ⟨q1, o1 + 0, none⟩ = some (.bool true) := (k1 0 (by omega)).trans (congrArg (fun b => some (Value.bool b)) p1_R0)
  have x2 : V.cell? ⟨q1, o1 + 2, none⟩ = some (.bool true) := (k1 2 (by omega)).trans (congrArg (fun b => some (Value.bool b)) p1_R2)
  have x3 : V.cell? ⟨q1, o1 + 3, none⟩ = some (.bool false) := (k1 3 (by omega)).trans (congrArg (fun b => some (Value.bool b)) p1_R3)
  obtain ⟨D0, m0, d0, y0, z0', -⟩ := k2 0 (by omega)
  obtain ⟨D2, m2, d2, y2, z2', -⟩ := k2 2 (by omega)
  have z0 : Ints V D0 m0 [] := by have h9 : solF p1 0 = [] := p1_F0; rw [← h9]; exact z0'
  have z2 : Ints V D2 m2 [1] := by have h9 : solF p1 2 = [1] := p1_F2; rw [← h9]; exact z2'
  obtain rfl : m0 = 0 := z0.1.symm
  obtain rfl : m2 = 1 := z2.1.symm
  obtain ⟨q3, o3, rfl, l3, k3⟩ := z2.2 (by omega)
  have u0 : V.cell? ⟨q3, o3, none⟩ = some (.int .i64 1) := k3 0 (by omega)
  rw [Nat.add_zero] at x0 y0
  have HH : Hid (holdsS ((List.range 4).map (solR p1)) ((List.range 4).map (solF p1)) 1 1 = true) := by
    show _ = _
    have j1 : gil ((List.range 4).map (solF p1)) 1 = [1] := p1_F1
    unfold holdsS
    rw [if_neg (by omega), if_neg (by omega), show (1 : Int).toNat = 1 from rfl, j1]
    rfl
  clear hr hf k1 k2 k3 z0 z2 z0' z2' eg
  go_wp2_with (go_at_call 31; refine (holds_any _ _ 4 4 4 4 _ _ 1 1 _ HRV.out HFV.out (by omega) (by omega)).mono ?_; rw [HH.out]; rintro e w3 ⟨rfl, hb3⟩)
  -- k9
  go_ret
  exact ⟨rfl, (hwV.call hb3).toBelow⟩
end Go.Proofs.YtmbihjlflcjlnaaGreat
