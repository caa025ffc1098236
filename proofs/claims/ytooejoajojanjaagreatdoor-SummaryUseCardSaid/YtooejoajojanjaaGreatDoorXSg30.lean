/- Texts: Vq Vo. -/
import Derived.Test.YtooejoajojanjaaGreatDoorXSg29
import Derived.Test.YtooejoajojanjaaGreatDoorXSg17
namespace Go.Df
open Go.RowKit
namespace If
open Sp
def fulPx (p : Pb) : Px := ⟨p, none, iniI p.ns p.F.toNat p.ns.length⟩
open Classical in
/-- The summaries of Full, and none where the problem is not valid. -/
noncomputable def fulA (p : Pb) : List Su := if pbErr p = 0 then fulI (fulPx p) p.ns.length else []
def usePx (p : Pb) (L : List Su) : Px := ⟨p, some L, [(p.mn.toNat, 0)]⟩
def useE (p : Pb) (L : List Su) : Int := if pbErr p ≠ 0 then pbErr p else sumErr p.F L
theorem usePx_in {p : Pb} {L : List Su} (h : useE p L = 0) : pbErr p = 0 ∧ MainIn (usePx p L) L := by
 unfold useE at h
 by_cases h0 : pbErr p = 0
 · rw [if_neg (not_not_intro h0)] at h
   exact ⟨h0, ok_of h0, rfl, rfl, h⟩
 · rw [if_pos h0] at h
   exact absurd h h0
def useN (p : Pb) (L : List Su) : Nat := if useE p L = 0 then p.ns.length else 0
noncomputable def useB (p : Pb) (L : List Su) : List Bool := if useE p L = 0 then (List.range p.ns.length).map (solRX (usePx p L)) else []
noncomputable def useF (p : Pb) (L : List Su) : List (List Int) := if useE p L = 0 then (List.range p.ns.length).map (solFX (usePx p L)) else []
end If
end Go.Df
namespace Go.Proofs.YtooejoajojanjaaGreatDoor
open Go.RowKit Go.Df Go.Df.If
attribute [local go_sem ↓] Go.wp_at_zero Go.wp_at_succ
def GetUseE (p : Pb) (L : List Su) (w : World) (e : Ending) (w' : World) : Prop :=
 ∃ A1 m1 A2 m2, e = .returned (.tuple #[.agg #[.slice A1 (useN p L) m1, .slice A2 (useN p L) m2], .int .i64 (useE p L)]) ∧ Bls w' A1 (useN p L) (useB p L) ∧ IntsR w' A2 (useN p L) (useF p L) ∧ Below w.heap.size w w'
theorem GetUse.any {p : Pb} {L : List Su} (h0 : useE p L = 0) {w w' : World} {e : Ending} (h : GetUse (usePx p L) w e w') : GetUseE p L w e w' := by
 obtain ⟨A1, m1, A2, m2, he, h1, h2, h3⟩ := h
 unfold GetUseE useN useB useF
 rw [if_pos h0, if_pos h0, if_pos h0, h0]
 exact ⟨A1, m1, A2, m2, he, h1, h2, h3⟩
theorem get_none {p : Pb} {L : List Su} {pe : Int} (hpe : useE p L = pe) (h0 : pe ≠ 0) {w w' : World} (hb : Below w.heap.size w w') : GetUseE p L w (.returned (.tuple #[.agg #[.slice none 0 0, .slice none 0 0], .int .i64 pe])) w' := by
 subst hpe
 unfold GetUseE useN useB useF
 rw [if_neg h0, if_neg h0, if_neg h0]
 exact ⟨none, 0, none, 0, rfl, ⟨rfl, fun h => absurd h (by omega)⟩, ⟨rfl, fun h => absurd h (by omega)⟩, hb⟩
set_option maxRecDepth 100000 in
set_option maxHeartbeats 4000000 in
theorem puse_any {p : Pb} {L : List Su} (A1 A2 A3 A4 AL : Option Addr) (n1 c1 n2 c2 n3 c3 n4 c4 nL cL : Nat) (w : World) (hG : Gr w A1 n1 A2 n2 p.ns p.es) (hF : Flw w A3 n3 p.fl) (hS : Sds w A4 n4 p.sd) (hn4 : n4 ≤ 1000000) (hL : SmC w AL nL L) (hnL : nL ≤ 1000000) :
   Calls Tryz.prog 23 #[.agg #[.slice A1 n1 c1, .slice A2 n2 c2, .int .i64 p.mn, .int .i64 p.F, .slice A3 n3 c3, .slice A4 n4 c4], .slice AL nL cL] w (GetUseE p L w) := by
 obtain ⟨pe, hpe⟩ : ∃ pe, useE p L = pe := ⟨_, rfl⟩
 by_cases h0 : pe = 0
 · subst h0
   obtain ⟨h1, hmi⟩ := usePx_in hpe
   have ho := ok_of h1
   have hm := main_in (sup_parts ho.sup).2.2.1
   obtain ⟨mN, hmN⟩ := Int.eq_ofNat_of_zero_le hm.1
   obtain ⟨Fn, hFn⟩ := Int.eq_ofNat_of_zero_le (show 0 ≤ p.F by have := ho.f1; omega)
   have h9 := puse_ok (p := usePx p L) A1 A2 A3 A4 AL n1 c1 n2 c2 n3 c3 n4 c4 nL cL mN Fn w hmi hmN hFn hG hF hS hn4 hL (by
     show pbErr ⟨p.ns, p.es, _, _, p.fl, p.sd⟩ = 0
     rw [← hmN, ← hFn]
     exact h1)
   rw [← hmN, ← hFn] at h9
   exact h9.mono fun e w' h => h.any hpe
 · have h0' : (pe != 0) = true := by simpa using h0
   have HG := Lib.hid hG
   have HF := Lib.hid hF
   have HS := Lib.hid hS
   have HL := Lib.hid hL
   have HUE := Lib.hid hpe
   have HN0 := Lib.hid h0
   obtain ⟨pb, hpb⟩ : ∃ pb, pbErr p = pb := ⟨_, rfl⟩
   have HPE : Hid (pbErr ⟨p.ns, p.es, p.mn, p.F, p.fl, p.sd⟩ = pb) := Lib.hid hpb
   by_cases h1 : pb = 0
   · have HSE : Hid (sumErr p.F L = pe) := Lib.hid (by unfold useE at hpe; rw [if_neg (by rw [hpb]; exact not_not_intro h1)] at hpe; exact hpe)
     subst h1
     clear hG hF hS hpe h0 hL hpb
     go_enter Tryz.func23, Tryz.ntmps23
     go_upto_region 1 with fail
     refine wp_named (fun W => ∃ b0 b1, w.heap.size = b0 ∧ w.heap.size + 1 = b1 ∧ Blk W b0 [.slice A1 n1 c1, .slice A2 n2 c2, .int .i64 p.mn, .int .i64 p.F, .slice A3 n3 c3, .slice A4 n4 c4] ∧ Blk W b1 [.slice none 0 0, .slice none 0 0] ∧ Below w.heap.size w W) ⟨_, _, rfl, rfl, ?_, ?_, ?_⟩ ?_
     · exact (Blk.new _ _ _ _ (by first | rfl | simp)).alloc _
     · exact kbn
     · go_grown
     rintro W ⟨b0, b1, e0, e1, B0, B1, hB⟩
     rw [e1, e0]
     have G0 : w.heap.size ≤ b0 := by omega
     have n01 : b0 ≠ b1 := by omega
     have G1 : w.heap.size ≤ b1 := by omega
     have n10 : b1 ≠ b0 := by omega
     clear e0 e1
     have ⟨L0, C0, F0⟩ := B0
     have ⟨L1, C1, F1⟩ := B1
     have HB0 := Lib.hid B0
     have HB1 := Lib.hid B1
     have HB := Lib.hid hB
     go_upto_region 5 with (first | (go_at_call 49; refine (ifdsck_any A1 A2 A3 A4 n1 c1 n2 c2 n3 c3 n4 c4 p.mn p.F p.ns p.es p.fl p.sd _ (HG.out.nd.later hB) (HG.out.ed.later hB) (HF.out.later hB) (HS.out.later hB) (by omega) HG.out.wn HG.out.we).mono ?_; rw [HPE.out]; rintro e w1 ⟨rfl, hb1⟩; have ⟨q1, q2, q3⟩ := HB0.out.later hb1) | (go_at_call 11; refine (sumck_any AL nL cL L p.F _ (HL.out.sm.later (HB.out.trans (hb1.mono HB.out.size))) (by omega)).mono ?_; rw [HSE.out]; rintro e w2 ⟨rfl, hb2⟩))
     have B12 := (HB1.out.later hb1).later hb2
     have ⟨L12, C12, F12⟩ := B12
     have hbw2 : Below w.heap.size w w2 := (HB.out.trans (hb1.mono HB.out.size)).trans (hb2.mono (by have := HB.out.size; have := hb1.size; omega))
     clear C1 F1 C0 F0 q1 q2 q3
     go_wp2_with fail
     refine retNamedS (fun X => Blk X b1 [.slice none 0 0, .slice none 0 0] ∧ Kept [b1] w2 X) ⟨(B12.set 0 _).set 1 _, ((Kept.refl [b1] w2).set b1 0 _ (.inl (by simp))).set b1 1 _ (.inl (by simp))⟩ ?_
     rintro X ⟨BX, hkX⟩
     have ⟨LX, CX, FX⟩ := BX
     refine bodyPost_ret (by simp [results, Tryz.results23, go_sem, CX]; try rfl) rfl ?_
     exact get_none HUE.out HN0.out (kept_fresh ((Kept.refl [] w).call hbw2) hkX (by simpa using G1)).toBelow
   · have h1' : (pb != 0) = true := by simpa using h1
     have HPB : Hid (pe = pb) := Lib.hid (by unfold useE at hpe; rw [if_pos (by rw [hpb]; exact h1), hpb] at hpe; exact hpe.symm)
     clear hG hF hS hpe h0 hL hpb h1 h0'
     go_enter Tryz.func23, Tryz.ntmps23
     go_upto_region 1 with fail
     refine wp_named (fun W => ∃ b0 b1, w.heap.size = b0 ∧ w.heap.size + 1 = b1 ∧ Blk W b0 [.slice A1 n1 c1, .slice A2 n2 c2, .int .i64 p.mn, .int .i64 p.F, .slice A3 n3 c3, .slice A4 n4 c4] ∧ Blk W b1 [.slice none 0 0, .slice none 0 0] ∧ Below w.heap.size w W) ⟨_, _, rfl, rfl, ?_, ?_, ?_⟩ ?_
     · exact (Blk.new _ _ _ _ (by first | rfl | simp)).alloc _
     · exact kbn
     · go_grown
     rintro W ⟨b0, b1, e0, e1, B0, B1, hB⟩
     rw [e1, e0]
     have G0 : w.heap.size ≤ b0 := by omega
     have n01 : b0 ≠ b1 := by omega
     have G1 : w.heap.size ≤ b1 := by omega
     have n10 : b1 ≠ b0 := by omega
     clear e0 e1
     have ⟨L0, C0, F0⟩ := B0
     have ⟨L1, C1, F1⟩ := B1
     have HB1 := Lib.hid B1
     go_upto_region 2 with (go_at_call 49; refine (ifdsck_any A1 A2 A3 A4 n1 c1 n2 c2 n3 c3 n4 c4 p.mn p.F p.ns p.es p.fl p.sd _ (HG.out.nd.later hB) (HG.out.ed.later hB) (HF.out.later hB) (HS.out.later hB) (by omega) HG.out.wn HG.out.we).mono ?_; rw [HPE.out]; rintro e w1 ⟨rfl, hb1⟩)
     have B11 := HB1.out.later hb1
     have ⟨L11, C11, F11⟩ := B11
     have hbw1 : Below w.heap.size w w1 := hB.trans (hb1.mono hB.size)
     clear C1 F1 C0 F0
     go_wp2_with fail
     refine retNamedS (fun X => Blk X b1 [.slice none 0 0, .slice none 0 0] ∧ Kept [b1] w1 X) ⟨(B11.set 0 _).set 1 _, ((Kept.refl [b1] w1).set b1 0 _ (.inl (by simp))).set b1 1 _ (.inl (by simp))⟩ ?_
     rintro X ⟨BX, hkX⟩
     have ⟨LX, CX, FX⟩ := BX
     refine bodyPost_ret (by simp [results, Tryz.results23, go_sem, CX]; try rfl) rfl ?_
     exact get_none (by rw [HUE.out, HPB.out]) (by rw [← HPB.out]; exact HN0.out) (kept_fresh ((Kept.refl [] w).call hbw1) hkX (by simpa using G1)).toBelow
set_option maxRecDepth 100000 in
set_option maxHeartbeats 4000000 in
theorem ruse_any {p : Pb} {L : List Su} (A1 A2 A3 A4 AL : Option Addr) (n1 c1 n2 c2 n3 c3 n4 c4 nL cL : Nat) (w : World) (hG : Gr w A1 n1 A2 n2 p.ns p.es) (hF : Flw w A3 n3 p.fl) (hS : Sds w A4 n4 p.sd) (hn4 : n4 ≤ 1000000) (hL : SmC w AL nL L) (_hnL : nL ≤ 1000000) :
   Calls Tryz.prog 24 #[.agg #[.slice A1 n1 c1, .slice A2 n2 c2, .int .i64 p.mn, .int .i64 p.F, .slice A3 n3 c3, .slice A4 n4 c4], .slice AL nL cL] w (GetUseE p L w) := by
 obtain ⟨pe, hpe⟩ : ∃ pe, useE p L = pe := ⟨_, rfl⟩
 by_cases h0 : pe = 0
 · subst h0
   obtain ⟨h1, hmi⟩ := usePx_in hpe
   have ho := ok_of h1
   have hm := main_in (sup_parts ho.sup).2.2.1
   obtain ⟨mN, hmN⟩ := Int.eq_ofNat_of_zero_le hm.1
   obtain ⟨Fn, hFn⟩ := Int.eq_ofNat_of_zero_le (show 0 ≤ p.F by have := ho.f1; omega)
   have h9 := ruse_ok (p := usePx p L) A1 A2 A3 A4 AL n1 c1 n2 c2 n3 c3 n4 c4 nL cL mN Fn w hmi hG ⟨hG.nd, hG.ed, hF, hS, hFn, hmN, ho, hn4⟩ hL.sm
   rw [← hmN, ← hFn] at h9
   exact h9.mono fun e w' h => h.any hpe
 · have h0' : (pe != 0) = true := by simpa using h0
   have HG := Lib.hid hG
   have HF := Lib.hid hF
   have HS := Lib.hid hS
   have HL := Lib.hid hL
   have HUE := Lib.hid hpe
   have HN0 := Lib.hid h0
   obtain ⟨pb, hpb⟩ : ∃ pb, pbErr p = pb := ⟨_, rfl⟩
   have HPE : Hid (pbErr ⟨p.ns, p.es, p.mn, p.F, p.fl, p.sd⟩ = pb) := Lib.hid hpb
   by_cases h1 : pb = 0
   · have HSE : Hid (sumErr p.F L = pe) := Lib.hid (by unfold useE at hpe; rw [if_neg (by rw [hpb]; exact not_not_intro h1)] at hpe; exact hpe)
     subst h1
     clear hG hF hS hpe h0 hL hpb
     go_enter Tryz.func24, Tryz.ntmps24
     go_upto_region 1 with fail
     refine wp_named (fun W => ∃ b0 b1, w.heap.size = b0 ∧ w.heap.size + 1 = b1 ∧ Blk W b0 [.slice A1 n1 c1, .slice A2 n2 c2, .int .i64 p.mn, .int .i64 p.F, .slice A3 n3 c3, .slice A4 n4 c4] ∧ Blk W b1 [.slice none 0 0, .slice none 0 0] ∧ Below w.heap.size w W) ⟨_, _, rfl, rfl, ?_, ?_, ?_⟩ ?_
     · exact (Blk.new _ _ _ _ (by first | rfl | simp)).alloc _
     · exact kbn
     · go_grown
     rintro W ⟨b0, b1, e0, e1, B0, B1, hB⟩
     rw [e1, e0]
     have G0 : w.heap.size ≤ b0 := by omega
     have n01 : b0 ≠ b1 := by omega
     have G1 : w.heap.size ≤ b1 := by omega
     have n10 : b1 ≠ b0 := by omega
     clear e0 e1
     have ⟨L0, C0, F0⟩ := B0
     have ⟨L1, C1, F1⟩ := B1
     have HB0 := Lib.hid B0
     have HB1 := Lib.hid B1
     have HB := Lib.hid hB
     go_upto_region 5 with (first | (go_at_call 28; refine (rifdsck_any A1 A2 A3 A4 n1 c1 n2 c2 n3 c3 n4 c4 p.mn p.F p.ns p.es p.fl p.sd _ (HG.out.nd.later hB) (HG.out.ed.later hB) (HF.out.later hB) (HS.out.later hB) (by omega) HG.out.wn HG.out.we).mono ?_; rw [HPE.out]; rintro e w1 ⟨rfl, hb1⟩; have ⟨q1, q2, q3⟩ := HB0.out.later hb1) | (go_at_call 12; refine (rsumck_any AL nL cL L p.F _ (HL.out.sm.later (HB.out.trans (hb1.mono HB.out.size)))).mono ?_; rw [HSE.out]; rintro e w2 ⟨rfl, hb2⟩))
     have B12 := (HB1.out.later hb1).later hb2
     have ⟨L12, C12, F12⟩ := B12
     have hbw2 : Below w.heap.size w w2 := (HB.out.trans (hb1.mono HB.out.size)).trans (hb2.mono (by have := HB.out.size; have := hb1.size; omega))
     clear C1 F1 C0 F0 q1 q2 q3
     go_wp2_with fail
     refine retNamedS (fun X => Blk X b1 [.slice none 0 0, .slice none 0 0] ∧ Kept [b1] w2 X) ⟨(B12.set 0 _).set 1 _, ((Kept.refl [b1] w2).set b1 0 _ (.inl (by simp))).set b1 1 _ (.inl (by simp))⟩ ?_
     rintro X ⟨BX, hkX⟩
     have ⟨LX, CX, FX⟩ := BX
     refine bodyPost_ret (by simp [results, Tryz.results24, go_sem, CX]; try rfl) rfl ?_
     exact get_none HUE.out HN0.out (kept_fresh ((Kept.refl [] w).call hbw2) hkX (by simpa using G1)).toBelow
   · have h1' : (pb != 0) = true := by simpa using h1
     have HPB : Hid (pe = pb) := Lib.hid (by unfold useE at hpe; rw [if_pos (by rw [hpb]; exact h1), hpb] at hpe; exact hpe.symm)
     clear hG hF hS hpe h0 hL hpb h1 h0'
     go_enter Tryz.func24, Tryz.ntmps24
     go_upto_region 1 with fail
     refine wp_named (fun W => ∃ b0 b1, w.heap.size = b0 ∧ w.heap.size + 1 = b1 ∧ Blk W b0 [.slice A1 n1 c1, .slice A2 n2 c2, .int .i64 p.mn, .int .i64 p.F, .slice A3 n3 c3, .slice A4 n4 c4] ∧ Blk W b1 [.slice none 0 0, .slice none 0 0] ∧ Below w.heap.size w W) ⟨_, _, rfl, rfl, ?_, ?_, ?_⟩ ?_
     · exact (Blk.new _ _ _ _ (by first | rfl | simp)).alloc _
     · exact kbn
     · go_grown
     rintro W ⟨b0, b1, e0, e1, B0, B1, hB⟩
     rw [e1, e0]
     have G0 : w.heap.size ≤ b0 := by omega
     have n01 : b0 ≠ b1 := by omega
     have G1 : w.heap.size ≤ b1 := by omega
     have n10 : b1 ≠ b0 := by omega
     clear e0 e1
     have ⟨L0, C0, F0⟩ := B0
     have ⟨L1, C1, F1⟩ := B1
     have HB1 := Lib.hid B1
     go_upto_region 2 with (go_at_call 28; refine (rifdsck_any A1 A2 A3 A4 n1 c1 n2 c2 n3 c3 n4 c4 p.mn p.F p.ns p.es p.fl p.sd _ (HG.out.nd.later hB) (HG.out.ed.later hB) (HF.out.later hB) (HS.out.later hB) (by omega) HG.out.wn HG.out.we).mono ?_; rw [HPE.out]; rintro e w1 ⟨rfl, hb1⟩)
     have B11 := HB1.out.later hb1
     have ⟨L11, C11, F11⟩ := B11
     have hbw1 : Below w.heap.size w w1 := hB.trans (hb1.mono hB.size)
     clear C1 F1 C0 F0
     go_wp2_with fail
     refine retNamedS (fun X => Blk X b1 [.slice none 0 0, .slice none 0 0] ∧ Kept [b1] w1 X) ⟨(B11.set 0 _).set 1 _, ((Kept.refl [b1] w1).set b1 0 _ (.inl (by simp))).set b1 1 _ (.inl (by simp))⟩ ?_
     rintro X ⟨BX, hkX⟩
     have ⟨LX, CX, FX⟩ := BX
     refine bodyPost_ret (by simp [results, Tryz.results24, go_sem, CX]; try rfl) rfl ?_
     exact get_none (by rw [HUE.out, HPB.out]) (by rw [← HPB.out]; exact HN0.out) (kept_fresh ((Kept.refl [] w).call hbw1) hkX (by simpa using G1)).toBelow
end Go.Proofs.YtooejoajojanjaaGreatDoor
namespace Go.Df.If
open Sp
end Go.Df.If
namespace Go.Proofs.YtooejoajojanjaaGreatDoor
open Go.RowKit Go.Df Go.Df.If
attribute [local go_sem ↓] Go.wp_at_zero Go.wp_at_succ
set_option maxRecDepth 100000 in
set_option maxHeartbeats 8000000 in
theorem sumUse_any {p : Pb} {L : List Su} (A1 A2 A3 A4 AL : Option Addr) (n1 c1 n2 c2 n3 c3 n4 c4 nL cL : Nat) (w : World) (hG : Gr w A1 n1 A2 n2 p.ns p.es) (hF : Flw w A3 n3 p.fl) (hS : Sds w A4 n4 p.sd) (hL : SmC w AL nL L) (hnL : nL ≤ 9223372036854775807) (hE : Env w) :
   Calls Tryz.prog 7 #[.agg #[.slice A1 n1 c1, .slice A2 n2 c2, .int .i64 p.mn, .int .i64 p.F, .slice A3 n3 c3, .slice A4 n4 c4], .slice AL nL cL] w fun e w' => e = .returned (.bool true) ∧ Below w.heap.size w w' := by
 have HG := Lib.hid hG
 have HF := Lib.hid hF
 have HS := Lib.hid hS
 have HL := Lib.hid hL
 have HE := Lib.hid hE
 clear hG hF hS hE hL
 go_enter Tryz.func7, Tryz.ntmps7
 go_upto_region 1 with fail
 refine wp_named (fun W => ∃ b0, w.heap.size = b0 ∧ Blk W b0 [.slice A1 n1 c1, .slice A2 n2 c2, .int .i64 p.mn, .int .i64 p.F, .slice A3 n3 c3, .slice A4 n4 c4] ∧ Below w.heap.size w W) ⟨_, rfl, ?_, ?_⟩ ?_
 · exact kbn
 · go_grown
 rintro W ⟨b0, e0, B0, hB⟩
 rw [e0]
 have G0 : w.heap.size ≤ b0 := by omega
 clear e0
 have ⟨L0, C0, F0⟩ := B0
 have HB := Lib.hid hB
 have HB0 := Lib.hid B0
 have HSH := Lib.hid (fun (w1 : World) (hk : Below w.heap.size w w1) => short_any AL nL cL L w1 (HL.out.sm.later hk) hnL)
 by_cases h20 : 20 < nL
 · have g1 : decide ((20 : Int) < (nL : Int)) = true := by simp; omega
   clear h20
   go_upto_region 2 with (go_at_call 22; refine (small35p_any A1 A2 A3 A4 n1 c1 n2 c2 n3 c3 n4 c4 p.mn p.F p.fl _ (HF.out.later HB.out)).mono ?_; rintro e w1 ⟨⟨b, rfl, hsm⟩, hb1⟩; have HBB : Hid (Below w.heap.size w w1) := Lib.hid (((Kept.refl [] W).call hb1).below HB.out HB.out.size (by simp)); cases b)
   all_goals (go_wp2_with fail; go_ret; exact ⟨rfl, HBB.out⟩)
 have g1 : decide ((20 : Int) < (nL : Int)) = false := by simp; omega
 go_wp2_with fail
 refine (small35p_any A1 A2 A3 A4 n1 c1 n2 c2 n3 c3 n4 c4 p.mn p.F p.fl _ (HF.out.later hB)).mono ?_
 rintro e w1 ⟨⟨b, rfl, hsm⟩, hb1⟩
 have hk1 : Kept [] W w1 := (Kept.refl _ _).call hb1
 have B01 := Lib.hid (hk1.blk (by simp) B0)
 have ⟨L01, C01, F01⟩ := B01.out
 have HB1 : Hid (Below w.heap.size w w1) := Lib.hid (hk1.below hB hB.size (by simp))
 clear C0 F0
 cases b with
 | false =>
   go_wp2_with fail
   go_ret
   exact ⟨rfl, HB1.out⟩
 | true =>
 obtain ⟨hn40, -, hF8, -, hn20⟩ := hsm rfl
 go_wp2_with fail
 refine (HSH.out _ HB1.out).mono ?_
 rintro e w2 ⟨⟨sb, rfl⟩, hb2⟩
 have hk12 : Kept [] w1 w2 := (Kept.refl _ _).call hb2
 have B02 := Lib.hid (hk12.blk (by simp) B01.out)
 have ⟨L02, C02, F02⟩ := B02.out
 have hB2 : Below w.heap.size w w2 := hk12.below HB1.out HB1.out.size (by simp)
 clear C01 F01 g1
 cases sb with
 | false =>
   go_wp2_with fail
   go_ret
   exact ⟨rfl, hB2⟩
 | true =>
 have HC1 := Lib.hid (puse_any A1 A2 A3 A4 AL n1 c1 n2 c2 n3 c3 n4 c4 nL cL w2 (HG.out.later hB2) (HF.out.later hB2) (HS.out.later hB2) (by omega) (HL.out.later hB2) (by omega))
 have HC2 := Lib.hid (fun (w3 : World) (hk : Below w.heap.size w w3) => ruse_any A1 A2 A3 A4 AL n1 c1 n2 c2 n3 c3 n4 c4 nL cL w3 (HG.out.later hk) (HF.out.later hk) (HS.out.later hk) (by omega) (HL.out.later hk) (by omega))
 have hun : useN p L ≤ 40 := by
   unfold useN
   have := HG.out.nd.1
   split <;> omega
 unfold GetUseE at HC1 HC2
 obtain ⟨pe, hpe⟩ : ∃ pe, useE p L = pe := ⟨_, rfl⟩
 obtain ⟨un, hun9⟩ : ∃ un, useN p L = un := ⟨_, rfl⟩
 obtain ⟨ub, hub⟩ : ∃ ub, useB p L = ub := ⟨_, rfl⟩
 obtain ⟨uf, huf⟩ : ∃ uf, useF p L = uf := ⟨_, rfl⟩
 rw [hpe, hun9, hub, huf] at HC1 HC2
 rw [hun9] at hun
 clear hsm hpe hun9 hub huf
 go_upto_region 4 with (go_at_call 23; refine HC1.out.mono ?_; rintro e w3 ⟨P1, m1, P2, m2, rfl, hbl1, hin1, hb3⟩; have HBL1 := Lib.hid hbl1; have HIN1 := Lib.hid hin1; clear hbl1 hin1)
 have hk23 : Kept [] w2 w3 := (Kept.refl _ _).call hb3
 refine wp_named (fun X => ∃ y, w3.heap.size = y ∧ Blk X y [.slice P1 un m1, .slice P2 un m2] ∧ Kept [] w3 X) ⟨_, rfl, Blk.new _ _ _ _ rfl, (Kept.refl _ _).alloc _⟩ ?_
 rintro V ⟨y, ey, By, hkV⟩
 rw [ey]
 have hk2V : Kept [] w2 V := keptTrans hk23 hkV
 have ⟨L0V, C0V, F0V⟩ := hk2V.blk (by simp) B02.out
 have hBV : Below w.heap.size w V := hk2V.below hB2 hB2.size (by simp)
 have HBY := Lib.hid By
 have ⟨Ly, Cy, Fy⟩ := By
 clear C02 F02 ey By
 go_upto_region 5 with (go_at_call 24; refine (HC2.out _ hBV).mono ?_; rintro e w4 ⟨Q1, d1, Q2, d2, rfl, hbl2, hin2, hb4⟩; have HBL2 := Lib.hid hbl2; have HIN2 := Lib.hid hin2; clear hbl2 hin2)
 have hk4 : Kept [] V w4 := (Kept.refl _ _).call hb4
 refine wp_named (fun X => ∃ z, w4.heap.size = z ∧ Blk X z [.slice Q1 un d1, .slice Q2 un d2] ∧ Kept [] w4 X) ⟨_, rfl, Blk.new _ _ _ _ rfl, (Kept.refl _ _).alloc _⟩ ?_
 rintro U ⟨z, ez, Bz, hkU⟩
 rw [ez]
 have hkVU : Kept [] V U := keptTrans hk4 hkU
 have ⟨LyU, CyU, FyU⟩ := hkVU.blk (by simp) HBY.out
 have hBU : Below w.heap.size w U := hkVU.below hBV hBV.size (by simp)
 have ⟨Lz, Cz, Fz⟩ := Bz
 have HSA := Lib.hid (rsame_eq P1 P2 Q1 Q2 un un m1 m2 d1 d2 ub uf U (HBL1.out.later (keptTrans hkV hkVU).toBelow) (HBL2.out.later hkU.toBelow) (HIN1.out.later (keptTrans hkV hkVU).toBelow) (HIN2.out.later hkU.toBelow) (by omega) (by omega))
 clear C0V F0V Cy Fy ez
 go_wp2_with (first | (go_at_call 25; refine HSA.out.mono ?_; rintro e w5 ⟨rfl, hb5⟩; have HK5 : Hid (Below w.heap.size w w5) := Lib.hid (((Kept.refl [] U).call hb5).below hBU hBU.size (by simp))) | (go_at_call 13; refine (knows35_any _ (HE.out.later HK5.out)).mono ?_; rintro e w6 ⟨rfl, hb6⟩))
 go_ret
 exact ⟨rfl, ((Kept.refl [] w5).call hb6).below HK5.out HK5.out.size (by simp)⟩
end Go.Proofs.YtooejoajojanjaaGreatDoor
