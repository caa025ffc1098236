/- Texts: Vq Vo. -/
import Derived.Test.YtooejoajojanjaaGreatDoorXSf29
import Derived.Test.YtooejoajojanjaaGreatDoorXSf17
namespace Go.Df
open Go.RowKit
namespace If
open Sp
def fulPx (p : Pb) : Px := ⟨p, none, iniI p.ns p.F.toNat p.ns.length⟩
theorem fulPx_ok {p : Pb} (h : Ok p) : OkX (fulPx p) :=
 ⟨h, fun x hx => by
   have h1 := iniI_mem.1 hx
   have h2 : (x.2 : Int) < p.F := by omega
   exact ⟨h1.1, h2⟩, fun L hL => by cases hL⟩
open Classical in
/-- The summaries of Full, and none where the problem is not valid. -/
noncomputable def fulA (p : Pb) : List Su := if pbErr p = 0 then fulI (fulPx p) p.ns.length else []
def usePx (p : Pb) (L : List Su) : Px := ⟨p, some L, [(p.mn.toNat, 0)]⟩
def useE (p : Pb) (L : List Su) : Int := if pbErr p ≠ 0 then pbErr p else sumErr p.F L
def useN (p : Pb) (L : List Su) : Nat := if useE p L = 0 then p.ns.length else 0
noncomputable def useB (p : Pb) (L : List Su) : List Bool := if useE p L = 0 then (List.range p.ns.length).map (solRX (usePx p L)) else []
noncomputable def useF (p : Pb) (L : List Su) : List (List Int) := if useE p L = 0 then (List.range p.ns.length).map (solFX (usePx p L)) else []
end If
end Go.Df
namespace Go.Proofs.YtooejoajojanjaaGreatDoor
open Go.RowKit Go.Df Go.Df.If
attribute [local go_sem ↓] Go.wp_at_zero Go.wp_at_succ
def GetUseE (p : Pb) (L : List Su) (w : World) (e : Ending) (w' : World) : Prop :=
 ∃ A1 m1 A2 m2, e = .returned (.tuple #[.agg #[.slice A1 (useN p L) m1, .slice A2 (useN p L) m2], .int .i64 (useE p L)]) ∧ Bls w' A1 (useN p L) (useB p L) ∧ IntsR w' A2 (useN p L) (useF p L) ∧ Below w.heap.size w w'
theorem GetUse.any {p : Pb} {L : List Su} (h0 : useE p L = 0) {w w' : World} {e : Ending} (h : GetUse (usePx p L) w e w') : GetUseE p L w e w' := by
 obtain ⟨A1, m1, A2, m2, he, h1, h2, h3⟩ := h
 unfold GetUseE useN useB useF
 rw [if_pos h0, if_pos h0, if_pos h0, h0]
 exact ⟨A1, m1, A2, m2, he, h1, h2, h3⟩
theorem sm_nil (w : World) : SmW w none 0 [] := ⟨rfl, fun h => absurd h (by omega)⟩
set_option maxRecDepth 100000 in
set_option maxHeartbeats 4000000 in
theorem pfull_any {p : Pb} (A1 A2 A3 A4 : Option Addr) (n1 c1 n2 c2 n3 c3 n4 c4 : Nat) (w : World) (hG : Gr w A1 n1 A2 n2 p.ns p.es) (hF : Flw w A3 n3 p.fl) (hS : Sds w A4 n4 p.sd) (hn4 : n4 ≤ 1000000) (hF8 : p.F ≤ 8) :
   Calls Tryz.prog 26 #[.agg #[.slice A1 n1 c1, .slice A2 n2 c2, .int .i64 p.mn, .int .i64 p.F, .slice A3 n3 c3, .slice A4 n4 c4]] w (GetFul w (fulA p) (pbErr p)) := by
 obtain ⟨pe, hpe⟩ : ∃ pe, pbErr p = pe := ⟨_, rfl⟩
 by_cases h0 : pe = 0
 · subst h0
   have ho := ok_of hpe
   have hm := main_in (sup_parts ho.sup).2.2.1
   obtain ⟨mN, hmN⟩ := Int.eq_ofNat_of_zero_le hm.1
   obtain ⟨Fn, hFn⟩ := Int.eq_ofNat_of_zero_le (show 0 ≤ p.F by have := ho.f1; omega)
   have h9 := pfull_ok (p := fulPx p) A1 A2 A3 A4 n1 c1 n2 c2 n3 c3 n4 c4 mN Fn w rfl (by show iniI p.ns p.F.toNat p.ns.length = _; rw [hFn, Int.toNat_natCast]; rfl) (fulPx_ok ho) hmN hFn (by omega) hG.nd hG.ed hF hS hn4 hG.wn hG.we (by
     show pbErr ⟨p.ns, p.es, _, _, p.fl, p.sd⟩ = 0
     rw [← hmN, ← hFn]
     exact hpe)
   rw [← hmN, ← hFn] at h9
   rw [hpe]
   unfold fulA
   rw [if_pos hpe]
   exact h9
 · have h0' : (pe != 0) = true := by simpa using h0
   have HG := Lib.hid hG
   have HF := Lib.hid hF
   have HS := Lib.hid hS
   have HPE : Hid (pbErr ⟨p.ns, p.es, p.mn, p.F, p.fl, p.sd⟩ = pe) := Lib.hid hpe
   have HFA : Hid (fulA p = []) := Lib.hid (by unfold fulA; rw [if_neg (by rw [hpe]; exact h0)])
   rw [hpe]
   clear hG hF hS hpe h0
   go_enter Tryz.func26, Tryz.ntmps26
   go_upto_region 1 with fail
   refine wp_named (fun W => ∃ b0, w.heap.size = b0 ∧ Blk W b0 [.slice A1 n1 c1, .slice A2 n2 c2, .int .i64 p.mn, .int .i64 p.F, .slice A3 n3 c3, .slice A4 n4 c4] ∧ Below w.heap.size w W) ⟨_, rfl, ?_, ?_⟩ ?_
   · exact kbn
   · go_grown
   rintro W ⟨b0, e0, B0, hB⟩
   rw [e0]
   have G0 : w.heap.size ≤ b0 := by omega
   clear e0
   have ⟨L0, C0, F0⟩ := B0
   go_wp2_with (go_at_call 49; refine (ifdsck_any A1 A2 A3 A4 n1 c1 n2 c2 n3 c3 n4 c4 p.mn p.F p.ns p.es p.fl p.sd _ (HG.out.nd.later hB) (HG.out.ed.later hB) (HF.out.later hB) (HS.out.later hB) (by omega) HG.out.wn HG.out.we).mono ?_; rw [HPE.out]; rintro e w1 ⟨rfl, hb1⟩)
   go_ret2
   rw [HFA.out]
   exact ⟨none, 0, 0, rfl, by omega, sm_nil _, hB.trans (hb1.mono hB.size)⟩
set_option maxRecDepth 100000 in
set_option maxHeartbeats 4000000 in
theorem rfull_any {p : Pb} (A1 A2 A3 A4 : Option Addr) (n1 c1 n2 c2 n3 c3 n4 c4 : Nat) (w : World) (hG : Gr w A1 n1 A2 n2 p.ns p.es) (hF : Flw w A3 n3 p.fl) (hS : Sds w A4 n4 p.sd) (hn4 : n4 ≤ 1000000) (hF8 : p.F ≤ 8) :
   Calls Tryz.prog 27 #[.agg #[.slice A1 n1 c1, .slice A2 n2 c2, .int .i64 p.mn, .int .i64 p.F, .slice A3 n3 c3, .slice A4 n4 c4]] w (GetFul w (fulA p) (pbErr p)) := by
 obtain ⟨pe, hpe⟩ : ∃ pe, pbErr p = pe := ⟨_, rfl⟩
 by_cases h0 : pe = 0
 · subst h0
   have ho := ok_of hpe
   have hm := main_in (sup_parts ho.sup).2.2.1
   obtain ⟨mN, hmN⟩ := Int.eq_ofNat_of_zero_le hm.1
   obtain ⟨Fn, hFn⟩ := Int.eq_ofNat_of_zero_le (show 0 ≤ p.F by have := ho.f1; omega)
   have h9 := rfull_ok (p := fulPx p) A1 A2 A3 A4 n1 c1 n2 c2 n3 c3 n4 c4 mN Fn w rfl (by show iniI p.ns p.F.toNat p.ns.length = _; rw [hFn, Int.toNat_natCast]; rfl) (fulPx_ok ho) hG ⟨hG.nd, hG.ed, hF, hS, hFn, hmN, ho, hn4⟩ (by omega)
   rw [← hmN, ← hFn] at h9
   rw [hpe]
   unfold fulA
   rw [if_pos hpe, hG.nd.1]
   exact h9
 · have h0' : (pe != 0) = true := by simpa using h0
   have HG := Lib.hid hG
   have HF := Lib.hid hF
   have HS := Lib.hid hS
   have HPE : Hid (pbErr ⟨p.ns, p.es, p.mn, p.F, p.fl, p.sd⟩ = pe) := Lib.hid hpe
   have HFA : Hid (fulA p = []) := Lib.hid (by unfold fulA; rw [if_neg (by rw [hpe]; exact h0)])
   rw [hpe]
   clear hG hF hS hpe h0
   go_enter Tryz.func27, Tryz.ntmps27
   go_upto_region 1 with fail
   refine wp_named (fun W => ∃ b0, w.heap.size = b0 ∧ Blk W b0 [.slice A1 n1 c1, .slice A2 n2 c2, .int .i64 p.mn, .int .i64 p.F, .slice A3 n3 c3, .slice A4 n4 c4] ∧ Below w.heap.size w W) ⟨_, rfl, ?_, ?_⟩ ?_
   · exact kbn
   · go_grown
   rintro W ⟨b0, e0, B0, hB⟩
   rw [e0]
   have G0 : w.heap.size ≤ b0 := by omega
   clear e0
   have ⟨L0, C0, F0⟩ := B0
   go_wp2_with (go_at_call 28; refine (rifdsck_any A1 A2 A3 A4 n1 c1 n2 c2 n3 c3 n4 c4 p.mn p.F p.ns p.es p.fl p.sd _ (HG.out.nd.later hB) (HG.out.ed.later hB) (HF.out.later hB) (HS.out.later hB) (by omega) HG.out.wn HG.out.we).mono ?_; rw [HPE.out]; rintro e w1 ⟨rfl, hb1⟩)
   go_ret2
   rw [HFA.out]
   exact ⟨none, 0, 0, rfl, by omega, sm_nil _, hB.trans (hb1.mono hB.size)⟩
end Go.Proofs.YtooejoajojanjaaGreatDoor
namespace Go.Df.If
open Sp
theorem fulA_len (p : Pb) : (fulA p).length ≤ p.ns.length := by
 classical
 unfold fulA
 split
 · exact fulI_len _ _
 · simp
theorem fulA_pairs {p : Pb} (hF : p.F ≤ 8) : ∀ u ∈ fulA p, u.x.length ≤ 64 ∧ u.y.length ≤ 64 := fun u hu => by
 classical
 unfold fulA at hu
 split at hu
 · rename_i h0
   have h1 := fulI_pairs (fulPx_ok (ok_of h0)) u hu
   have h2 : (fulPx p).F.toNat ≤ 8 := by show p.F.toNat ≤ 8; omega
   have h3 : (fulPx p).F.toNat * (fulPx p).F.toNat ≤ 8 * 8 := Nat.mul_le_mul h2 h2
   omega
 · cases hu
theorem fulA_rows {p : Pb} (hF : p.F ≤ 8) : ∀ i, i < (fulA p).length → (gS (fulA p) i).x.length ≤ 64 ∧ (gS (fulA p) i).y.length ≤ 64 := fun i hi => fulA_pairs hF _ (by
 have e : gS (fulA p) i = (fulA p)[i] := by simp [gS, hi]
 rw [e]
 exact List.getElem_mem hi)
end Go.Df.If
namespace Go.Proofs.YtooejoajojanjaaGreatDoor
open Go.RowKit Go.Df Go.Df.If
attribute [local go_sem ↓] Go.wp_at_zero Go.wp_at_succ
set_option maxRecDepth 100000 in
set_option maxHeartbeats 8000000 in
theorem sumFull_any {p : Pb} (A1 A2 A3 A4 : Option Addr) (n1 c1 n2 c2 n3 c3 n4 c4 : Nat) (w : World) (hG : Gr w A1 n1 A2 n2 p.ns p.es) (hF : Flw w A3 n3 p.fl) (hS : Sds w A4 n4 p.sd) (hE : Env w) :
   Calls Tryz.prog 8 #[.agg #[.slice A1 n1 c1, .slice A2 n2 c2, .int .i64 p.mn, .int .i64 p.F, .slice A3 n3 c3, .slice A4 n4 c4]] w fun e w' => e = .returned (.bool true) ∧ Below w.heap.size w w' := by
 have HG := Lib.hid hG
 have HF := Lib.hid hF
 have HS := Lib.hid hS
 have HE := Lib.hid hE
 clear hG hF hS hE
 go_enter Tryz.func8, Tryz.ntmps8
 go_upto_region 1 with fail
 refine wp_named (fun W => ∃ b0, w.heap.size = b0 ∧ Blk W b0 [.slice A1 n1 c1, .slice A2 n2 c2, .int .i64 p.mn, .int .i64 p.F, .slice A3 n3 c3, .slice A4 n4 c4] ∧ Below w.heap.size w W) ⟨_, rfl, ?_, ?_⟩ ?_
 · exact kbn
 · go_grown
 rintro W ⟨b0, e0, B0, hB⟩
 rw [e0]
 have G0 : w.heap.size ≤ b0 := by omega
 clear e0
 have ⟨L0, C0, F0⟩ := B0
 go_wp2_with fail
 refine (small35p_any A1 A2 A3 A4 n1 c1 n2 c2 n3 c3 n4 c4 p.mn p.F p.fl _ (HF.out.later hB)).mono ?_
 rintro e w1 ⟨⟨b, rfl, hsm⟩, hb1⟩
 have hk1 : Kept [] W w1 := (Kept.refl _ _).call hb1
 have B01 := Lib.hid (hk1.blk (by simp) B0)
 have ⟨L01, C01, F01⟩ := B01.out
 have hB1 : Below w.heap.size w w1 := hk1.below hB hB.size (by simp)
 clear C0 F0
 cases b with
 | false =>
   go_wp2_with fail
   go_ret
   exact ⟨rfl, hB1⟩
 | true =>
 obtain ⟨hn40, -, hF8, -, hn20⟩ := hsm rfl
 have HFL := Lib.hid (fulA_len p)
 have HFR := Lib.hid (fulA_rows hF8)
 have HC1 := Lib.hid (pfull_any A1 A2 A3 A4 n1 c1 n2 c2 n3 c3 n4 c4 w1 (HG.out.later hB1) (HF.out.later hB1) (HS.out.later hB1) (by omega) hF8)
 have HC2 := Lib.hid (fun (w2 : World) (hk : Below w.heap.size w w2) => rfull_any A1 A2 A3 A4 n1 c1 n2 c2 n3 c3 n4 c4 w2 (HG.out.later hk) (HF.out.later hk) (HS.out.later hk) (by omega) hF8)
 have HNN : Hid (p.ns.length = n1) := Lib.hid HG.out.nd.1
 obtain ⟨pe, hpe⟩ : ∃ pe, pbErr p = pe := ⟨_, rfl⟩
 obtain ⟨L, hL⟩ : ∃ L, fulA p = L := ⟨_, rfl⟩
 rw [hpe, hL] at HC1 HC2
 rw [hL] at HFL HFR
 clear hsm hpe hL
 go_upto_region 4 with (go_at_call 26; refine HC1.out.mono ?_; rintro e w2 ⟨Ap, kp, cp, rfl, hkp, hp2, hb2⟩; have HP2 := Lib.hid hp2; clear hp2)
 have hk12 : Kept [] w1 w2 := (Kept.refl _ _).call hb2
 have ⟨L02, C02, F02⟩ := hk12.blk (by simp) B01.out
 have hB2 : Below w.heap.size w w2 := hk12.below hB1 hB1.size (by simp)
 clear C01 F01
 go_upto_region 5 with (go_at_call 27; refine (HC2.out _ hB2).mono ?_; rintro e w3 ⟨Aq, kq, cq, rfl, hkq, hq3, hb3⟩; have HQ3 := Lib.hid hq3; clear hq3)
 obtain rfl : kp = kq := HP2.out.len.symm.trans HQ3.out.len
 have hB3 : Below w.heap.size w w3 := ((Kept.refl [] w2).call hb3).below hB2 hB2.size (by simp)
 have HSA := Lib.hid (same35_any Ap Aq kp cp cq L w3 (HP2.out.later hb3) HQ3.out hkp (fun i hi => by have h1 := HFR.out i (by rw [HQ3.out.len]; exact hi); omega))
 clear C02 F02
 go_wp2_with (first | (go_at_call 20; refine HSA.out.mono ?_; rintro e w4 ⟨rfl, hb4⟩; have HK4 : Hid (Below w.heap.size w w4) := Lib.hid (((Kept.refl [] w3).call hb4).below hB3 hB3.size (by simp))) | (go_at_call 13; refine (knows35_any _ (HE.out.later HK4.out)).mono ?_; rintro e w5 ⟨rfl, hb5⟩))
 go_ret
 exact ⟨rfl, ((Kept.refl [] w4).call hb5).below HK4.out HK4.out.size (by simp)⟩
end Go.Proofs.YtooejoajojanjaaGreatDoor
