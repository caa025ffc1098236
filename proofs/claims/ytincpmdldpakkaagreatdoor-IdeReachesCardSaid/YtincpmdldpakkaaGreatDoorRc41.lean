/- Texts: Tk Dg Hi Ry. -/
import Derived.Test.YtincpmdldpakkaaGreatDoorRc33
import Derived.Test.YtincpmdldpakkaaGreatDoorRc34
import Derived.Test.YtincpmdldpakkaaGreatDoorRc35
import Derived.Test.YtincpmdldpakkaaGreatDoorRc40
import Derived.Test.YtincpmdldpakkaaGreatDoorRc11
import Derived.Test.YtincpmdldpakkaaGreatDoorRc32
import Derived.Test.YtincpmdldpakkaaGreatDoorRows
import Derived.ChangeSame
import Derived.LaidLaws
import Derived.LaidHandle
import Derived.Handed
import Derived.JoinedOf
import Derived.Lib.SmallJoins
namespace Go.Df
open Go.RowKit
namespace If
open Sp
open Classical in
theorem holds_on {p : Pb} (ho : Ok p) {N : Nat} {n d : Nat} (hn : n < N) (hd : d ≠ 0) (h : ∃ a, PE p a n d) : holdsS ((List.range N).map (solR p)) ((List.range N).map (solF p)) (n : Int) (d : Int) = true := by
 unfold holdsS
 rw [if_neg (by omega), Int.toNat_natCast, if_neg (by omega)]
 have e1 : gil ((List.range N).map (solF p)) n = solF p n := by simp [gil, hn]
 rw [e1]
 simp only [List.length_map, List.length_range, hn, decide_true, Bool.true_and, decide_eq_true_iff]
 unfold solF ofNats
 rw [List.mem_map]
 obtain ⟨a, ha⟩ := h
 have hr := ha.rng ho
 refine ⟨d, ?_, rfl⟩
 rw [List.mem_filter, List.mem_range, Bool.and_eq_true]
 exact ⟨by omega, by simpa using hd, decide_eq_true ⟨a, ha⟩⟩
open Classical in
theorem solR_t {p : Pb} {n : Nat} (h : PE p 0 n 0) : solR p n = true := decide_eq_true h
open Classical in
theorem solR_f {p : Pb} {n : Nat} (h : ¬ PE p 0 n 0) : solR p n = false := decide_eq_false h
theorem Bls.at {w0 w : World} {A : Option Addr} {n : Nat} {l : List Bool} (h : Bls w0 A n l) (hb : Below w0.heap.size w0 w) {j : Nat} (hj : j < n) : ∃ b o, A = some ⟨b, o, none⟩ ∧ b < w.heap.size ∧ w.cell? ⟨b, o + j, none⟩ = some (.bool (gbl l j)) := by
 obtain ⟨b, o, rfl, hl, hc⟩ := (h.later hb).2 (by omega)
 exact ⟨b, o, rfl, hl, hc j hj⟩
end If
end Go.Df
namespace Go.Proofs.YtincpmdldpakkaaGreatDoor
open Go.RowKit Go.Df Go.Df.Iv Go.Df.Sp
attribute [local go_sem ↓] Go.wp_at_zero Go.wp_at_succ
set_option maxRecDepth 100000 in
set_option maxHeartbeats 20000000 in
theorem ideReaches_any {q : Vb} (A1 A2 A3 A4 : Option Addr) (n1 c1 n2 c2 n3 c3 n4 c4 : Nat) (w : World) (hF : Fls w A3 n3 q.fl) (hL : n4 ≤ 1000000 → Lies q A1 A2 A3 A4 n1 n2 n3 n4 w) (hgv : Gv w) :
   Calls Tryz.prog 4 #[.agg #[.slice A1 n1 c1, .slice A2 n2 c2, .int .i64 q.mn, .int .i64 q.F, .slice A3 n3 c3, .slice A4 n4 c4]] w fun e w' => e = .returned (.bool true) ∧ Below w.heap.size w w' := by
 have HF := Lib.hid hF
 have HL := Lib.hid hL
 have HGV := Lib.hid hgv
 obtain ⟨pe, hpe⟩ : ∃ pe, vErr q = pe := ⟨_, rfl⟩
 have HPE := Lib.hid hpe
 clear hF hL hpe hgv
 go_enter Tryz.func4, Tryz.ntmps4
 go_upto_region 1 with fail
 refine wp_named (fun W => ∃ b0, w.heap.size = b0 ∧ Blk W b0 [.slice A1 n1 c1, .slice A2 n2 c2, .int .i64 q.mn, .int .i64 q.F, .slice A3 n3 c3, .slice A4 n4 c4] ∧ Below w.heap.size w W) ⟨_, rfl, ?_, ?_⟩ ?_
 · exact kbn
 · go_grown
 rintro W ⟨b0, e0, B0, hB⟩
 rw [e0]
 have G0 : w.heap.size ≤ b0 := by omega
 clear e0
 have ⟨L0, C0, F0⟩ := B0
 have HB0 := Lib.hid B0
 have hkw0 : Kept [] w W := (Kept.refl _ _).call hB
 go_wp2_with fail
 refine (small33_any A1 A2 A3 A4 n1 c1 n2 c2 n3 c3 n4 c4 q.mn q.F q.fl _ (HF.out.later hB)).mono ?_
 rintro e w1 ⟨b, rfl, hsm, hb1⟩
 have hk1 : Kept [] W w1 := (Kept.refl _ _).call hb1
 have HB1 : Hid (Below w.heap.size w w1) := Lib.hid (hk1.below hB hB.size (by simp))
 have B01 := Lib.hid (hk1.blk (by simp) HB0.out)
 have ⟨L01, C01, F01⟩ := B01.out
 clear C0 F0
 cases b with
 | false =>
   go_wp2_with fail
   go_ret
   exact ⟨rfl, HB1.out⟩
 | true =>
 have HSM := Lib.hid (hsm rfl)
 have HLL : Hid (Lies q A1 A2 A3 A4 n1 n2 n3 n4 w) := HL.out (by have := HSM.out; omega)
 clear hsm
 go_wp2_with fail
 refine (rideck_any A1 A2 A3 A4 n1 c1 n2 c2 n3 c3 n4 c4 q.mn q.F q.ns q.es q.fl q.sd _ (HLL.out.nd.later HB1.out) (HLL.out.ed.later HB1.out) (HLL.out.fl.later HB1.out) (HLL.out.sd.later HB1.out) (by have := HSM.out; omega)).mono ?_
 have hpe9 : Sp.ideErr q.ns q.es q.mn q.F q.fl q.sd = pe := HPE.out
 rw [hpe9]
 clear hpe9
 rintro e w2 ⟨rfl, hb2⟩
 have hk12 : Kept [] w1 w2 := (Kept.refl _ _).call hb2
 have HB2 : Hid (Below w.heap.size w w2) := Lib.hid (hk12.below HB1.out HB1.out.size (by simp))
 by_cases h0 : pe = 0
 case neg =>
   have h0' : (pe != 0) = true := by simpa using h0
   go_wp2_with fail
   go_ret
   exact ⟨rfl, HB2.out⟩
 subst h0
 have HOV := Lib.hid (vok_of HPE.out)
 have HOP := Lib.hid HOV.out.pf
 have HMU : Hid (mu0 q ≤ 1000000) := mu_small (by have := HSM.out; have := HLL.out.nd.1; omega) (by have := HSM.out; omega)
 have HN1 : Hid (n1 = q.ns.length ∧ n1 ≤ 36) := ⟨HLL.out.nd.1.symm, HSM.out.1⟩
 have HMM : Hid (q.mn = (q.mn.toNat : Int) ∧ q.F = (q.F.toNat : Int)) := ⟨by have := If.main_in (If.sup_parts HOV.out.sup).2.2.1; omega, by have := HOV.out.f1; omega⟩
 have B02 := Lib.hid (hk12.blk (by simp) B01.out)
 have ⟨L02, C02, F02⟩ := B02.out
 clear C01 F01 L01
 have hck : ∀ w9, Below w.heap.size w w9 → Calls Tryz.prog 31 #[.agg #[.slice A1 n1 c1, .slice A2 n2 c2, .int .i64 q.mn, .int .i64 q.F, .slice A3 n3 c3, .slice A4 n4 c4]] w9 fun e w' => e = .returned (.int .i64 0) ∧ Below w9.heap.size w9 w' := fun w9 hb => by
   have h9 := ideck_any A1 A2 A3 A4 n1 c1 n2 c2 n3 c3 n4 c4 q.mn q.F q.ns q.es q.fl q.sd w9 (HLL.out.nd.later hb) (HLL.out.ed.later hb) (HLL.out.fl.later hb) (HLL.out.sd.later hb) (by have := HSM.out; omega) HLL.out.wn HLL.out.we (HGV.out.later hb)
   have e9 : Sp.ideErr q.ns q.es q.mn q.F q.fl q.sd = 0 := HPE.out
   rw [e9] at h9
   exact h9
 have HCK := Lib.hid hck
 clear hck
 go_upto_region 4 with (go_at_call 10; refine (psolve_any (p := q) A1 A2 A3 A4 n1 c1 n2 c2 n3 c3 n4 c4 _ (HLL.out.later HB2.out) (HGV.out.later HB2.out) (fun _ => HMU.out)).mono ?_; rw [HPE.out]; rintro e w3 h3; rcases h3 with ⟨-, go, cc, rw3, rc3, S, rfl, hV3, hI3, hb3⟩ | ⟨h9, -⟩; rotate_left; (· exact absurd rfl h9); have HV3 := Lib.hid hV3; have HI3 := Lib.hid hI3; clear hV3 hI3)
 refine wp_named (fun V3 => ∃ g8, w3.heap.size = g8 ∧ Blk V3 g8 [.slice (some ⟨go, 0, none⟩) n1 cc] ∧ Kept [] w3 V3) ⟨_, rfl, Blk.new _ _ _ _ rfl, (Kept.refl _ _).alloc _⟩ ?_
 rintro V3 ⟨g8, eg8, Bg8, hkV3⟩
 rw [eg8]
 have hk23 : Kept [] w2 V3 := ((Kept.refl [] w2).call hb3).next hkV3 (by simp)
 have HB3 : Hid (Below w.heap.size w V3) := Lib.hid (hk23.below HB2.out HB2.out.size (by simp))
 have B03 := Lib.hid (hk23.blk (by simp) B02.out)
 have HBG8 := Lib.hid Bg8
 have HV33 := Lib.hid (HV3.out.keep hkV3)
 have ⟨L03, C03, F03⟩ := B03.out
 clear C02 F02 L02 eg8 Bg8 hkV3
 go_upto_region 5 with (go_at_call 18; refine (pfacts_ok (p := q) A1 A2 A3 A4 n1 c1 n2 c2 n3 c3 n4 c4 _ (HLL.out.later HB3.out) HOV.out (fun w9 hb9 => HCK.out w9 (HB3.out.trans (hb9.mono HB3.out.size)))).mono ?_; rintro e w4 ⟨N1, x1, N2, x2, N3, x3, N4, x4, rfl, hn4', he4', hf4', hs4', hb4⟩; have HNQ := Lib.hid hn4'; have HEQ := Lib.hid he4'; have HFQ := Lib.hid hf4'; have HSQ := Lib.hid hs4'; clear hn4' he4' hf4' hs4')
 refine wp_named (fun V4 => ∃ gq, w4.heap.size = gq ∧ Blk V4 gq [.slice N1 n1 x1, .slice N2 n2 x2, .int .i64 q.mn, .int .i64 q.F, .slice N3 n3 x3, .slice N4 n4 x4] ∧ Kept [] w4 V4) ⟨_, rfl, Blk.new _ _ _ _ rfl, (Kept.refl _ _).alloc _⟩ ?_
 rintro V4 ⟨gq, egq, Bgq, hkV4⟩
 rw [egq]
 have hk34 : Kept [] V3 V4 := ((Kept.refl [] V3).call hb4).next hkV4 (by simp)
 have HB4 : Hid (Below w.heap.size w V4) := Lib.hid (hk34.below HB3.out HB3.out.size (by simp))
 have B04 := Lib.hid (hk34.blk (by simp) B03.out)
 have HBG84 := Lib.hid (hk34.blk (by simp) HBG8.out)
 have HV34 := Lib.hid (HV33.out.keep hk34)
 have HBQ4 := Lib.hid Bgq
 have HGQ : Hid (Gr V4 N1 n1 N2 n2 (pf q).ns (pf q).es) := Lib.hid ⟨HNQ.out.later hkV4.toBelow, HEQ.out.later hkV4.toBelow, HLL.out.wn, HLL.out.we⟩
 have HPQ : Hid (If.PbW (pf q) n1 q.F.toNat q.mn.toNat N1 N2 N3 N4 n2 n3 n4 V4) := Lib.hid ⟨HNQ.out.later hkV4.toBelow, HEQ.out.later hkV4.toBelow, HFQ.out.later hkV4.toBelow, HSQ.out.later hkV4.toBelow, HMM.out.2, HMM.out.1, HOP.out, by have := HSM.out; omega⟩
 have ⟨L04, C04, F04⟩ := B04.out
 have ⟨L84, C84, F84⟩ := HBG84.out
 have ⟨LQ4, CQ4, FQ4⟩ := Bgq
 clear C03 F03 L03 egq Bgq hkV4
 go_upto_region 8 with (go_at_call 19; rw [HMM.out.1, HMM.out.2]; refine (rsolve_ok N1 N2 N3 N4 n1 x1 n2 x2 n3 x3 n4 x4 q.mn.toNat q.F.toNat _ HGQ.out HPQ.out).mono ?_; rintro e w5 ⟨T1, d1, T2, d2, rfl, hr5, hf5, hb5⟩; have HR5 := Lib.hid hr5; have HF5 := Lib.hid hf5; clear hr5 hf5)
 refine wp_named (fun V5 => ∃ gt, w5.heap.size = gt ∧ Blk V5 gt [.slice T1 n1 d1, .slice T2 n1 d2] ∧ Kept [] w5 V5) ⟨_, rfl, Blk.new _ _ _ _ rfl, (Kept.refl _ _).alloc _⟩ ?_
 rintro V5 ⟨gt, egt, Bgt, hkV5⟩
 rw [egt]
 have hk45 : Kept [] V4 V5 := ((Kept.refl [] V4).call hb5).next hkV5 (by simp)
 have HB5 : Hid (Below w.heap.size w V5) := Lib.hid (hk45.below HB4.out HB4.out.size (by simp))
 have B05 := Lib.hid (hk45.blk (by simp) B04.out)
 have HBG85 := Lib.hid (hk45.blk (by simp) HBG84.out)
 have HBGT := Lib.hid Bgt
 have HV5 := Lib.hid (HV34.out.keep hk45)
 have HR5V := Lib.hid (HR5.out.later hkV5.toBelow)
 have HF5V := Lib.hid (HF5.out.later hkV5.toBelow)
 have ⟨L05, C05, F05⟩ := B05.out
 have ⟨L85, C85, F85⟩ := HBG85.out
 obtain ⟨f, hf⟩ : ∃ f, q.F.toNat = f := ⟨_, rfl⟩
 rw [hf] at HV5
 have HEF := Lib.hid hf
 have hf6 : f ≤ 6 := by have := HSM.out; omega
 have hf1 : 0 < f := by have := HOV.out.f1; omega
 have hn36 : n1 ≤ 36 := HN1.out.2
 have dF : ((f : Int) != q.F) = false := by
   have : (f : Int) = q.F := by have := HMM.out.2; omega
   simpa using this
 clear C04 F04 L04 C84 F84 L84 CQ4 FQ4 LQ4 egt Bgt hkV5 hf
 go_wp2_with fail
 clear C05 F05 L05 C85 F85 L85
 go_loopw [9] (fun s wq => ∃ n : Nat, n ≤ n1 ∧ s = .int .i64 n ∧ Hid (Kept [] V5 wq)) (fun s _ => n1 - (intOf s).toNat)
 case atStart => exact ⟨0, Nat.zero_le _, rfl, Lib.hid (Kept.refl _ _)⟩
 case round =>
 rename World => wq
 obtain ⟨n, hn9, rfl, HKQ⟩ := hrel
 have ⟨L8q, C8q, F8q⟩ := HKQ.out.blk (by simp) HBG85.out
 have ⟨L0q, C0q, F0q⟩ := HKQ.out.blk (by simp) B05.out
 have ⟨LTq, CTq, FTq⟩ := HKQ.out.blk (by simp) HBGT.out
 have HBQ : Hid (Below w.heap.size w wq) := Lib.hid (HKQ.out.below HB5.out HB5.out.size (by simp))
 by_cases hltn : n < n1
 case neg =>
   obtain rfl : n = n1 := by omega
   go_wp2_with (go_at_call 14; refine (knows33_any _ (HGV.out.later HBQ.out)).mono ?_; rintro e w6 ⟨rfl, hb6⟩)
   go_ret
   exact ⟨rfl, ((Kept.refl [] wq).call hb6).below HBQ.out HBQ.out.size (by simp)⟩
 have hn1' : (n : Int) < (n1 : Int) := by omega
 have VQ := Lib.hid (HV5.out.keep HKQ.out)
 have r1 := VQ.out.row n hltn
 have gl1 := VQ.out.glt
 have lrow := VQ.out.lt n hltn
 have hc0 := VQ.out.cell n 0 hltn hf1
 have hz0 := sol_zero HOV.out HI3.out (n := n) (by rw [← HN1.out.1]; exact hltn)
 obtain ⟨bT, oT, eT, lT, cT⟩ := HR5V.out.at HKQ.out.toBelow hltn
 subst eT
 have eR : If.gbl ((List.range n1).map (If.solR (pf q))) n = If.solR (pf q) n := by simp [If.gbl, hltn]
 rw [eR] at cT
 obtain ⟨z0, hz9, hz8⟩ : ∃ z0 : Int, (S n 0).1 = ⟨z0, 0⟩ ∧ ((z0 = 2 ∧ If.solR (pf q) n = true) ∨ (z0 = 0 ∧ If.solR (pf q) n = false)) := by
   by_cases hp : If.PE (pf q) 0 n 0
   · exact ⟨2, by rw [hz0.1 hp]; rfl, .inl ⟨rfl, If.solR_t hp⟩⟩
   · exact ⟨0, by rw [hz0.2 hp]; rfl, .inr ⟨rfl, If.solR_f hp⟩⟩
 rw [hz9] at hc0
 obtain ⟨ca, cb⟩ := hc0
 have hca : wq.cell? ⟨rw3 n, 0, none⟩ = some (.int .i64 z0) := by have h9 := ca; rw [Nat.zero_mul] at h9; exact h9
 have dl0 : (0 : Int) < (f : Int) := by omega
 clear ca cb hz9 hz0 eR
 rcases hz8 with ⟨rfl, e2⟩ | ⟨rfl, e2⟩
 all_goals
   rw [e2] at cT
   clear e2
   go_upto_region 13 with fail
   go_quiet (fail)
   clear r1 gl1 lrow hca cT L8q C8q F8q L0q C0q F0q LTq CTq FTq
   go_wp2_with fail
   go_loopw [10] (fun s wy => ∃ d : Nat, 1 ≤ d ∧ d ≤ f ∧ s = .int .i64 d ∧ Hid (Kept [] V5 wy)) (fun s _ => f - (intOf s).toNat)
   case atStart => exact ⟨1, Nat.le_refl _, hf1, rfl, Lib.hid (HKQ.out.drewN _)⟩
   case round =>
   rename World => wy
   obtain ⟨d, hd1', hd9, rfl, HKY⟩ := hrel
   have ⟨L8y, C8y, F8y⟩ := HKY.out.blk (by simp) HBG85.out
   have ⟨L0y, C0y, F0y⟩ := HKY.out.blk (by simp) B05.out
   have ⟨LTy, CTy, FTy⟩ := HKY.out.blk (by simp) HBGT.out
   have VY := Lib.hid (HV5.out.keep HKY.out)
   have r1 := VY.out.row n hltn
   have gl1 := VY.out.glt
   by_cases hltd : d < f
   case neg =>
     obtain rfl : d = f := by omega
     have dl : decide ((d : Int) < q.F) = false := decide_eq_false (by have := HMM.out.2; have := HEF.out; omega)
     go_wp2_with fail
     exact ⟨⟨n + 1, by omega, by go_num, HKY⟩, by simp [intOf]; omega⟩
   have dl : decide ((d : Int) < q.F) = true := decide_eq_true (by have := HMM.out.2; have := HEF.out; omega)
   have hd1 : (d : Int) < (f : Int) := by omega
   have lrow := VY.out.lt n hltn
   have hc := VY.out.cell n d hltn hltd
   obtain ⟨z, zn, hz⟩ : ∃ z zn, (S n d).1 = ⟨z, zn⟩ := ⟨_, _, rfl⟩
   rw [hz] at hc
   have ca := hc.1
   have HHO : Hid (z ≠ 0 → If.holdsS ((List.range n1).map (If.solR (pf q))) ((List.range n1).map (If.solF (pf q))) (n : Int) (d : Int) = true) := Lib.hid (fun h => If.holds_on HOP.out hltn (by omega) (sol_holds HI3.out (by rw [← HN1.out.1]; exact hltn) (by rw [HEF.out]; exact hltd) (fun e9 => h (by
     have h8 := congrArg (fun u : U => u.1.k) e9
     rw [hz] at h8
     exact h8))))
   have HRY := Lib.hid (HR5V.out.later HKY.out.toBelow)
   have HFY := Lib.hid (HF5V.out.later HKY.out.toBelow)
   clear hc hz
   by_cases hz0 : z = 0
   · subst hz0
     go_wp2_with fail
     exact ⟨⟨d + 1, by omega, by omega, by go_num, HKY⟩, by simp [intOf]; omega⟩
   · have dz : (z != 0) = true := by simpa using hz0
     have HH1 := Lib.hid (HHO.out hz0)
     go_wp2_with (go_at_call 20; refine (rholds_any _ T2 n1 d1 n1 d2 _ _ n d _ HRY.out HFY.out (by omega) (by omega)).mono ?_; rw [HH1.out]; rintro e w6 ⟨rfl, hb6⟩; have HK6 : Hid (Kept [] V5 w6) := Lib.hid (HKY.out.call hb6))
     exact ⟨⟨d + 1, by omega, by omega, by go_num, HK6⟩, by simp [intOf]; omega⟩
end Go.Proofs.YtincpmdldpakkaaGreatDoor
namespace Go.Df
open Go.RowKit Go.ChangeShapes Go.WideShapes
section
variable {H : Type} {enc : TypeId × Value → H} {P : Program} {w : World} {base : Nat} {held : Bool}
theorem addr_add_add (a : Addr) (x y : Nat) : (a.add x).add y = a.add (x + y) := by
 by_cases hx : x = 0 <;> by_cases hy : y = 0 <;> simp [Addr.add, hx, hy, Nat.add_assoc]
theorem open_rowsI {t e : TypeId} {k fuel : Nat} {v : Value} {x : DataW H × List MemPlace} (ht : P.underlying t = some (.slice e)) (hC : P.cellsOf e = k) (hk : 0 < k)
  (hel : ∀ n cs' y, DataW.trod enc P w base (fun _ => true) held n e cs' = some y → ∃ zs : List Int, cs' = zs.map (Value.int .i64) ∧ ∀ q, q < k → (Lit.int .i64 (gi zs q)).wf = true)
  (h : DataW.trod enc P w base (fun _ => true) held fuel t [v] = some x) :
  ∃ A n c, ∃ g : Nat → Nat → Int, v = .slice A n c ∧ n ≤ c ∧ (0 < n → ∃ b o, A = some ⟨b, o, none⟩ ∧ b < w.heap.size ∧ ∀ i, i < n → ∀ q, q < k → w.cell? ⟨b, o + i * k + q, none⟩ = some (.int .i64 (g i q))) ∧ ∀ i, i < n → ∀ q, q < k → (Lit.int .i64 (g i q)).wf = true := by
 rcases Go.Deep.open_slice ht h with ⟨h0, _⟩ | ⟨a, len, cap, m, n, D, Pl, hcs, hbb, hl, hm, hmm, hx, hi⟩
 ·injection h0 with h0
  exact ⟨none, 0, 0, fun _ _ => 0, h0, Nat.le_refl _, fun h => absurd h (by omega), fun i hi => absurd hi (by omega)⟩
 ·injection hcs with hcs
  subst hcs
  have hread : ∀ i, i < len → ∃ zs : List Int, ∀ q, q < k → w.cell? (a.add (i * k + q)) = some (.int .i64 (gi zs q)) ∧ (Lit.int .i64 (gi zs q)).wf = true := by
   intro i hil
   obtain ⟨cs', hc, ht'⟩ := hi i (by rw [hmm]; simp; omega)
   rw [hC] at hc
   obtain ⟨zs, rfl, hw⟩ := hel _ _ _ ht'
   refine ⟨zs, fun q hq => ⟨?_, hw q hq⟩⟩
   obtain ⟨h1, h2, h3⟩ := World.cells?_some hc
   have h4 := h3 q hq
   have h5 : q < zs.length := by simp at h2; omega
   rw [map_gi h5] at h4
   have e1 : (a.add (i * k)).add q = a.add (i * k + q) := addr_add_add a _ _
   rw [← e1]
   exact h4
  have hex : ∃ f : Nat → List Int, ∀ i, i < len → ∀ q, q < k → w.cell? (a.add (i * k + q)) = some (.int .i64 (gi (f i) q)) ∧ (Lit.int .i64 (gi (f i) q)).wf = true :=
   ⟨fun i => if hil : i < len then (hread i hil).choose else [], fun i hil => by simp only [dif_pos hil]; exact (hread i hil).choose_spec⟩
  obtain ⟨f, hf⟩ := hex
  refine ⟨some a, len, cap, fun i q => gi (f i) q, rfl, hl, fun hp => ?_, fun i hi q hq => (hf i hi q hq).2⟩
  obtain ⟨b, o, sp⟩ := a
  have h0 := (hf 0 hp 0 hk).1
  have hsp : sp = none := by
   cases sp with
   | none => rfl
   | some s =>
    exfalso
    simp only [World.cell?, Addr.add] at h0
    split at h0 <;> simp at h0
  subst hsp
  refine ⟨b, o, rfl, cell_lt (p := ⟨b, o, none⟩) (by have h9 := h0; rw [add_lit] at h9; simpa using h9), fun i hil q hq => ?_⟩
  have h8 := (hf i hil q hq).1
  rw [add_lit, ← Nat.add_assoc] at h8
  exact h8
theorem cells3 {cs : List Value} {z0 z1 z2 : Int} (hl : cs.length = 3) (h0 : (cs.drop 0).take 1 = [.int .i64 z0]) (h1 : (cs.drop 1).take 1 = [.int .i64 z1]) (h2 : (cs.drop 2).take 1 = [.int .i64 z2]) : cs = [z0, z1, z2].map (Value.int .i64) := by
 match cs, hl with
 | [a, b, c], _ => simp at h0 h1 h2; simp [h0, h1, h2]
theorem cells4 {cs : List Value} {z0 z1 z2 z3 : Int} (hl : cs.length = 4) (h0 : (cs.drop 0).take 1 = [.int .i64 z0]) (h1 : (cs.drop 1).take 1 = [.int .i64 z1]) (h2 : (cs.drop 2).take 1 = [.int .i64 z2]) (h3 : (cs.drop 3).take 1 = [.int .i64 z3]) : cs = [z0, z1, z2, z3].map (Value.int .i64) := by
 match cs, hl with
 | [a, b, c, d], _ => simp at h0 h1 h2 h3; simp [h0, h1, h2, h3]
theorem gn_mk {n i : Nat} (h : i < n) (f : Nat → Sp.Nd) : gn ((List.range n).map f) i = f i := by
 rw [gn_lt (by simpa using h)]
 simp
theorem ge_mk {n i : Nat} (h : i < n) (f : Nat → Sp.Ed) : ge ((List.range n).map f) i = f i := by
 rw [ge_lt (by simpa using h)]
 simp
theorem gr_mk {A1 A2 : Option Addr} {n1 n2 : Nat} {g1 g2 : Nat → Nat → Int}
  (c1 : 0 < n1 → ∃ b o, A1 = some ⟨b, o, none⟩ ∧ b < w.heap.size ∧ ∀ i, i < n1 → ∀ q, q < 3 → w.cell? ⟨b, o + i * 3 + q, none⟩ = some (.int .i64 (g1 i q))) (w1 : ∀ i, i < n1 → ∀ q, q < 3 → (Lit.int .i64 (g1 i q)).wf = true)
  (c2 : 0 < n2 → ∃ b o, A2 = some ⟨b, o, none⟩ ∧ b < w.heap.size ∧ ∀ i, i < n2 → ∀ q, q < 4 → w.cell? ⟨b, o + i * 4 + q, none⟩ = some (.int .i64 (g2 i q))) (w2 : ∀ i, i < n2 → ∀ q, q < 4 → (Lit.int .i64 (g2 i q)).wf = true) :
  Gr w A1 n1 A2 n2 ((List.range n1).map (fun i => ⟨g1 i 0, g1 i 1, g1 i 2⟩)) ((List.range n2).map (fun i => ⟨g2 i 0, g2 i 1, g2 i 2, g2 i 3⟩)) := by
 refine ⟨⟨by simp, fun h => ?_⟩, ⟨by simp, fun h => ?_⟩, fun j hj => ?_, fun j hj => ?_⟩
 ·obtain ⟨b, o, e, hl, hc⟩ := c1 h
  refine ⟨b, o, e, hl, fun i hi => ?_⟩
  rw [gn_mk hi]
  exact ⟨hc i hi 0 (by omega), hc i hi 1 (by omega), hc i hi 2 (by omega)⟩
 ·obtain ⟨b, o, e, hl, hc⟩ := c2 h
  refine ⟨b, o, e, hl, fun i hi => ?_⟩
  rw [ge_mk hi]
  exact ⟨hc i hi 0 (by omega), hc i hi 1 (by omega), hc i hi 2 (by omega), hc i hi 3 (by omega)⟩
 ·rw [gn_mk hj]
  exact w1 j hj 0 (by omega)
 ·rw [ge_mk hj]
  exact ⟨w2 j hj 0 (by omega), w2 j hj 1 (by omega)⟩
end
end Go.Df
namespace Go.Proofs.YtincpmdldpakkaaGreatDoor
open Go.RowKit Go.ChangeShapes Go.WideShapes Go.Joins Go.Df
theorem open_node {H : Type} {enc : TypeId × Value → H} {w : World} {base : Nat} {held : Bool} (n : Nat) (cs' : List Value) (y : DataW H × List MemPlace) (h : DataW.trod enc Tryz.prog w base (fun _ => true) held n 120 cs' = some y) : ∃ zs : List Int, cs' = zs.map (Value.int .i64) ∧ ∀ q, q < 3 → (Lit.int .i64 (gi zs q)).wf = true := by
 obtain ⟨y0, y1, y2, m, -, hl, h0, h1, h2⟩ := Go.Deep.trod_struct3 Tryz.underlying120 h
 obtain ⟨z0, e0, -, w0⟩ := DataW.trod_int Tryz.underlying3 h0
 obtain ⟨z1, e1, -, w1⟩ := DataW.trod_int Tryz.underlying3 h1
 obtain ⟨z2, e2, -, w2⟩ := DataW.trod_int Tryz.underlying3 h2
 have hc3 : Tryz.prog.cellsOf 120 = 3 := by kernel_rfl
 have hc1 : Tryz.prog.cellsOf 3 = 1 := by kernel_rfl
 rw [hc3] at hl
 dsimp only at e0 e1 e2
 rw [hc1] at e0 e1 e2
 refine ⟨[z0, z1, z2], cells3 hl e0 e1 e2, fun q hq => ?_⟩
 match q, hq with
 | 0, _ => exact w0
 | 1, _ => exact w1
 | 2, _ => exact w2
theorem open_edge {H : Type} {enc : TypeId × Value → H} {w : World} {base : Nat} {held : Bool} (n : Nat) (cs' : List Value) (y : DataW H × List MemPlace) (h : DataW.trod enc Tryz.prog w base (fun _ => true) held n 43 cs' = some y) : ∃ zs : List Int, cs' = zs.map (Value.int .i64) ∧ ∀ q, q < 4 → (Lit.int .i64 (gi zs q)).wf = true := by
 obtain ⟨y0, y1, y2, y3, m, -, hl, h0, h1, h2, h3⟩ := trod_struct4 Tryz.underlying43 h
 obtain ⟨z0, e0, -, w0⟩ := DataW.trod_int Tryz.underlying3 h0
 obtain ⟨z1, e1, -, w1⟩ := DataW.trod_int Tryz.underlying3 h1
 obtain ⟨z2, e2, -, w2⟩ := DataW.trod_int Tryz.underlying3 h2
 obtain ⟨z3, e3, -, w3⟩ := DataW.trod_int Tryz.underlying3 h3
 have hc3 : Tryz.prog.cellsOf 43 = 4 := by kernel_rfl
 have hc1 : Tryz.prog.cellsOf 3 = 1 := by kernel_rfl
 rw [hc3] at hl
 dsimp only at e0 e1 e2 e3
 rw [hc1] at e0 e1 e2 e3
 refine ⟨[z0, z1, z2, z3], cells4 hl e0 e1 e2 e3, fun q hq => ?_⟩
 match q, hq with
 | 0, _ => exact w0
 | 1, _ => exact w1
 | 2, _ => exact w2
 | 3, _ => exact w3
theorem open_gr {H : Type} {enc : TypeId × Value → H} {w : World} {base : Nat} {held : Bool} {f1 f2 : Nat} {v1 v2 : Value} {x1 x2 : DataW H × List MemPlace}
  (h1 : DataW.trod enc Tryz.prog w base (fun _ => true) held f1 22 [v1] = some x1) (h2 : DataW.trod enc Tryz.prog w base (fun _ => true) held f2 23 [v2] = some x2) :
  ∃ A1 n1 c1 A2 n2 c2 ns es, v1 = .slice A1 n1 c1 ∧ v2 = .slice A2 n2 c2 ∧ Gr w A1 n1 A2 n2 ns es := by
 obtain ⟨A1, n1, c1, g1, rfl, -, k1, w1⟩ := open_rowsI Tryz.underlying22 (k := 3) (by kernel_rfl) (by omega) open_node h1
 obtain ⟨A2, n2, c2, g2, rfl, -, k2, w2⟩ := open_rowsI Tryz.underlying23 (k := 4) (by kernel_rfl) (by omega) open_edge h2
 exact ⟨A1, n1, c1, A2, n2, c2, _, _, rfl, rfl, gr_mk k1 w1 k2 w2⟩
end Go.Proofs.YtincpmdldpakkaaGreatDoor
namespace Go.Df
open Go.RowKit Go.ChangeShapes Go.WideShapes
section
variable {H : Type} {enc : TypeId × Value → H} {P : Program} {w : World} {base : Nat} {held : Bool}
theorem open_rowsC {t e : TypeId} {fuel : Nat} {v : Value} {x : DataW H × List MemPlace} (ht : P.underlying t = some (.slice e)) (hC : P.cellsOf e = 1)
  (h : DataW.trod enc P w base (fun _ => true) held fuel t [v] = some x) :
  ∃ A n c, v = .slice A n c ∧ n ≤ c ∧ (0 < n → ∃ b o, A = some ⟨b, o, none⟩ ∧ b < w.heap.size ∧ ∀ i, i < n → ∃ u m y, w.cell? ⟨b, o + i, none⟩ = some u ∧ DataW.trod enc P w base (fun _ => true) held m e [u] = some y) := by
 rcases Go.Deep.open_slice ht h with ⟨h0, _⟩ | ⟨a, len, cap, m, n, D, Pl, hcs, hbb, hl, hm, hmm, hx, hi⟩
 ·injection h0 with h0
  exact ⟨none, 0, 0, h0, Nat.le_refl _, fun h => absurd h (by omega)⟩
 ·injection hcs with hcs
  subst hcs
  have hread : ∀ i, i < len → ∃ u m y, w.cell? (a.add i) = some u ∧ DataW.trod enc P w base (fun _ => true) held m e [u] = some y := by
   intro i hil
   obtain ⟨cs', hc, ht'⟩ := hi i (by rw [hmm]; simp; omega)
   rw [hC] at hc
   obtain ⟨h1, h2, h3⟩ := World.cells?_some hc
   match cs', h2 with
   | [u], _ =>
    have h4 := h3 0 (by omega)
    rw [addr_add_add, Nat.mul_one] at h4
    exact ⟨u, _, _, h4, ht'⟩
  refine ⟨some a, len, cap, rfl, hl, fun hp => ?_⟩
  obtain ⟨b, o, sp⟩ := a
  obtain ⟨u0, m0, y0, h0, -⟩ := hread 0 hp
  have hsp : sp = none := by
   cases sp with
   | none => rfl
   | some s =>
    exfalso
    simp only [World.cell?, Addr.add] at h0
    split at h0 <;> simp at h0
  subst hsp
  refine ⟨b, o, rfl, cell_lt (p := ⟨b, o, none⟩) (by have h9 := h0; rw [add_lit] at h9; simpa using h9), fun i hil => ?_⟩
  obtain ⟨u, m1, y, h1, h2⟩ := hread i hil
  rw [add_lit] at h1
  exact ⟨u, m1, y, h1, h2⟩
theorem gl_mk {n i : Nat} (h : i < n) (f : Nat → List Sp.Xp) : Sp.gl ((List.range n).map f) i = f i := by simp [Sp.gl, h]
theorem gx_mk {n i : Nat} (h : i < n) (f : Nat → Sp.Xp) : Sp.gx ((List.range n).map f) i = f i := by simp [Sp.gx, h]
theorem gs_mk {n i : Nat} (h : i < n) (f : Nat → Sp.Vs) : Sp.gs ((List.range n).map f) i = f i := by simp [Sp.gs, h]
end
theorem cells5 {cs : List Value} {z0 z1 z2 z3 z4 : Int} (hl : cs.length = 5) (h0 : (cs.drop 0).take 1 = [.int .i64 z0]) (h1 : (cs.drop 1).take 1 = [.int .i64 z1]) (h2 : (cs.drop 2).take 3 = [.int .i64 z2, .int .i64 z3, .int .i64 z4]) : cs = [z0, z1, z2, z3, z4].map (Value.int .i64) := by
 match cs, hl with
 | [a, b, c, d, e], _ => simp at h0 h1 h2; simp [h0, h1, h2]
theorem cells4' {cs : List Value} {z0 z1 z2 z3 : Int} (hl : cs.length = 4) (h0 : (cs.drop 0).take 1 = [.int .i64 z0]) (h1 : (cs.drop 1).take 1 = [.int .i64 z1]) (h2 : (cs.drop 2).take 2 = [.int .i64 z2, .int .i64 z3]) : cs = [z0, z1, z2, z3].map (Value.int .i64) := by
 match cs, hl with
 | [a, b, c, d], _ => simp at h0 h1 h2; simp [h0, h1, h2]
theorem cells2 {cs : List Value} {z0 z1 : Int} (hl : cs.length = 2) (h0 : (cs.drop 0).take 1 = [.int .i64 z0]) (h1 : (cs.drop 1).take 1 = [.int .i64 z1]) : cs = [z0, z1].map (Value.int .i64) := by
 match cs, hl with
 | [a, b], _ => simp at h0 h1; simp [h0, h1]
theorem i64_fit {z : Int} (h : (Lit.int .i64 z).wf = true) : wrap64 z = z := by
 have h : IntKind.min .i64 ≤ z ∧ z ≤ IntKind.max .i64 := by simpa [Lit.wf] using h
 have e1 : IntKind.min .i64 = -9223372036854775808 := by decide
 have e2 : IntKind.max .i64 = 9223372036854775807 := by decide
 rw [e1, e2] at h
 exact IntWalk.wrap64_in _ h
theorem slice_len {H : Type} {enc : TypeId × Value → H} {P : Program} {w : World} {base : Nat} {held : Bool} {t e : TypeId} {fuel : Nat} {A : Option Addr} {n c : Nat} {x : DataW H × List MemPlace} (ht : P.underlying t = some (.slice e))
  (h : DataW.trod enc P w base (fun _ => true) held fuel t [.slice A n c] = some x) : n ≤ 9223372036854775807 := by
 rcases Go.Deep.open_slice ht h with ⟨h0, _⟩ | ⟨a, len, cap, m, k, D, Pl, hcs, hbb, hl, hm, hmm, hx, hi⟩
 ·injection h0 with h0
  injection h0 with h1 h2 h3
  omega
 ·injection hcs with hcs
  injection hcs with h1 h2 h3
  unfold maxLen at hm
  omega
end Go.Df
namespace Go.Proofs.YtincpmdldpakkaaGreatDoor
open Go.RowKit Go.ChangeShapes Go.WideShapes Go.Joins Go.Df Go.Df.Iv
theorem hc1 : Tryz.prog.cellsOf 3 = 1 := by kernel_rfl
theorem hc1' : Tryz.prog.cellsOf 2 = 1 := by kernel_rfl
section
variable {H : Type} {enc : TypeId × Value → H} {w : World} {base : Nat} {held : Bool}
theorem open_value (n : Nat) (cs' : List Value) (y : DataW H × List MemPlace) (h : DataW.trod enc Tryz.prog w base (fun _ => true) held n 46 cs' = some y) : ∃ z0 z1 : Int, cs' = [z0, z1].map (Value.int .i64) ∧ (Lit.int .i64 z0).wf = true ∧ (Lit.int .i64 z1).wf = true ∧ y.1 = .agg [.lit (.int .i64 z0), .lit (.int .i64 z1)] := by
 obtain ⟨y0, y1, m, hx, hl, h0, h1⟩ := Go.ChangeShapes.trod_struct2 Tryz.underlying46 h
 obtain ⟨z0, e0, f0, w0⟩ := DataW.trod_int Tryz.underlying3 h0
 obtain ⟨z1, e1, f1, w1⟩ := DataW.trod_int Tryz.underlying2 h1
 have hc3 : Tryz.prog.cellsOf 46 = 2 := by kernel_rfl
 rw [hc3] at hl
 dsimp only at e0 e1
 rw [hc1] at e0
 rw [hc1'] at e1
 exact ⟨z0, z1, cells2 hl e0 e1, w0, w1, by rw [hx, f0, f1]⟩
theorem open_xform (n : Nat) (cs' : List Value) (y : DataW H × List MemPlace) (h : DataW.trod enc Tryz.prog w base (fun _ => true) held n 71 cs' = some y) : ∃ z0 z1 z2 : Int, cs' = [z0, z1, z2].map (Value.int .i64) ∧ (Lit.int .i64 z0).wf = true ∧ (Lit.int .i64 z1).wf = true ∧ (Lit.int .i64 z2).wf = true ∧ y.1 = .agg [.lit (.int .i64 z0), .lit (.int .i64 z1), .lit (.int .i64 z2)] := by
 obtain ⟨y0, y1, y2, m, hx, hl, h0, h1, h2⟩ := Go.Deep.trod_struct3 Tryz.underlying71 h
 obtain ⟨z0, e0, f0, w0⟩ := DataW.trod_int Tryz.underlying3 h0
 obtain ⟨z1, e1, f1, w1⟩ := DataW.trod_int Tryz.underlying2 h1
 obtain ⟨z2, e2, f2, w2⟩ := DataW.trod_int Tryz.underlying2 h2
 have hc3 : Tryz.prog.cellsOf 71 = 3 := by kernel_rfl
 rw [hc3] at hl
 dsimp only at e0 e1 e2
 rw [hc1] at e0
 rw [hc1'] at e1 e2
 exact ⟨z0, z1, z2, cells3 hl e0 e1 e2, w0, w1, w2, by rw [hx, f0, f1, f2]⟩
theorem open_xpair (n : Nat) (cs' : List Value) (y : DataW H × List MemPlace) (h : DataW.trod enc Tryz.prog w base (fun _ => true) held n 125 cs' = some y) : ∃ zs : List Int, cs' = zs.map (Value.int .i64) ∧ ∀ q, q < 5 → (Lit.int .i64 (gi zs q)).wf = true := by
 obtain ⟨y0, y1, y2, m, -, hl, h0, h1, h2⟩ := Go.Deep.trod_struct3 Tryz.underlying125 h
 obtain ⟨z0, e0, -, w0⟩ := DataW.trod_int Tryz.underlying3 h0
 obtain ⟨z1, e1, -, w1⟩ := DataW.trod_int Tryz.underlying3 h1
 obtain ⟨z2, z3, z4, e2, w2, w3, w4, -⟩ := open_xform _ _ _ h2
 have hc3 : Tryz.prog.cellsOf 125 = 5 := by kernel_rfl
 have hcx : Tryz.prog.cellsOf 71 = 3 := by kernel_rfl
 rw [hc3] at hl
 dsimp only at e0 e1 e2
 rw [hc1] at e0 e1
 rw [hcx] at e2
 refine ⟨[z0, z1, z2, z3, z4], cells5 hl e0 e1 e2, fun q hq => ?_⟩
 match q, hq with
 | 0, _ => exact w0
 | 1, _ => exact w1
 | 2, _ => exact w2
 | 3, _ => exact w3
 | 4, _ => exact w4
theorem open_vseed (n : Nat) (cs' : List Value) (y : DataW H × List MemPlace) (h : DataW.trod enc Tryz.prog w base (fun _ => true) held n 80 cs' = some y) : ∃ zs : List Int, cs' = zs.map (Value.int .i64) ∧ ∀ q, q < 4 → (Lit.int .i64 (gi zs q)).wf = true := by
 obtain ⟨y0, y1, y2, m, -, hl, h0, h1, h2⟩ := Go.Deep.trod_struct3 Tryz.underlying80 h
 obtain ⟨z0, e0, -, w0⟩ := DataW.trod_int Tryz.underlying3 h0
 obtain ⟨z1, e1, -, w1⟩ := DataW.trod_int Tryz.underlying3 h1
 obtain ⟨z2, z3, e2, w2, w3, -⟩ := open_value _ _ _ h2
 have hc3 : Tryz.prog.cellsOf 80 = 4 := by kernel_rfl
 have hcx : Tryz.prog.cellsOf 46 = 2 := by kernel_rfl
 rw [hc3] at hl
 dsimp only at e0 e1 e2
 rw [hc1] at e0 e1
 rw [hcx] at e2
 refine ⟨[z0, z1, z2, z3], cells4' hl e0 e1 e2, fun q hq => ?_⟩
 match q, hq with
 | 0, _ => exact w0
 | 1, _ => exact w1
 | 2, _ => exact w2
 | 3, _ => exact w3
theorem open_flows {fuel : Nat} {v : Value} {x : DataW H × List MemPlace} (h : DataW.trod enc Tryz.prog w base (fun _ => true) held fuel 26 [v] = some x) : ∃ A n c ls, v = .slice A n c ∧ Fls w A n ls ∧ (∀ k, ∀ q ∈ Sp.gl ls k, wrap64 q.b = q.b ∧ wrap64 q.c = q.c) ∧ ∀ b o i Ai ni ci, A = some ⟨b, o, none⟩ → i < n → w.cell? ⟨b, o + i, none⟩ = some (.slice Ai ni ci) → ni ≤ ci := by
 obtain ⟨A, n, c, rfl, -, hrow⟩ := open_rowsC Tryz.underlying26 (by kernel_rfl) h
 have hex : ∀ i, ∃ l : List Sp.Xp, (∀ q ∈ l, wrap64 q.b = q.b ∧ wrap64 q.c = q.c) ∧ ∀ b o, A = some ⟨b, o, none⟩ → i < n → ∃ Ai ni ci, w.cell? ⟨b, o + i, none⟩ = some (.slice Ai ni ci) ∧ ni ≤ ci ∧ Xps w Ai ni l := by
  intro i
  by_cases hi : i < n
  ·obtain ⟨b, o, rfl, hb, hc⟩ := hrow (by omega)
   obtain ⟨u, m, y, h1, h2⟩ := hc i hi
   obtain ⟨Ai, ni, ci, g, rfl, hni, k1, k2⟩ := open_rowsI Tryz.underlying76 (k := 5) (by kernel_rfl) (by omega) open_xpair h2
   refine ⟨(List.range ni).map (fun j => ⟨g j 0, g j 1, g j 2, g j 3, g j 4⟩), fun q hq => ?_, fun b' o' e' _ => ?_⟩
   ·obtain ⟨j, hj, rfl⟩ := List.mem_map.1 hq
    have hj := List.mem_range.1 hj
    exact ⟨i64_fit (k2 j hj 3 (by omega)), i64_fit (k2 j hj 4 (by omega))⟩
   injection e' with e'
   injection e' with e1 e2
   subst e1 e2
   refine ⟨Ai, ni, ci, h1, hni, by simp, fun h0 => ?_⟩
   obtain ⟨b2, o2, rfl, hl2, hc2⟩ := k1 h0
   refine ⟨b2, o2, rfl, hl2, fun j hj => ?_⟩
   rw [gx_mk hj]
   exact ⟨hc2 j hj 0 (by omega), hc2 j hj 1 (by omega), hc2 j hj 2 (by omega), hc2 j hj 3 (by omega), hc2 j hj 4 (by omega)⟩
  ·exact ⟨[], (fun _ h => by cases h), fun _ _ _ h => absurd h hi⟩
 refine ⟨A, n, c, (List.range n).map (fun i => (hex i).choose), rfl, ⟨by simp, fun h0 => ?_⟩, fun k q hq => ?_, fun b o i Ai ni ci hA hi hc => ?_⟩
 ·obtain ⟨b, o, rfl, hb, -⟩ := hrow h0
  refine ⟨b, o, rfl, hb, fun i hi => ?_⟩
  rw [gl_mk hi]
  obtain ⟨Ai, ni, ci, h1, -, h3⟩ := (hex i).choose_spec.2 b o rfl hi
  exact ⟨Ai, ni, ci, h1, h3⟩
 ·by_cases hk : k < n
  ·rw [gl_mk hk] at hq
   exact (hex k).choose_spec.1 q hq
  ·have e : Sp.gl ((List.range n).map (fun i => (hex i).choose)) k = [] := by simp [Sp.gl, hk]
   rw [e] at hq
   cases hq
 ·obtain ⟨Ai', ni', ci', h1, h2, -⟩ := (hex i).choose_spec.2 b o hA hi
  have h9 := h1.symm.trans hc
  injection h9 with h9
  injection h9 with e1 e2 e3
  omega
theorem open_seeds {fuel : Nat} {v : Value} {x : DataW H × List MemPlace} (h : DataW.trod enc Tryz.prog w base (fun _ => true) held fuel 27 [v] = some x) : ∃ A n c sd, v = .slice A n c ∧ n ≤ c ∧ n ≤ 9223372036854775807 ∧ Vss w A n sd ∧ ∀ s ∈ sd, wrap64 s.v = s.v := by
 obtain ⟨A, n, c, g, rfl, hnc, k1, k2⟩ := open_rowsI Tryz.underlying27 (k := 4) (by kernel_rfl) (by omega) open_vseed h
 have hn := slice_len Tryz.underlying27 h
 refine ⟨A, n, c, (List.range n).map (fun j => ⟨g j 0, g j 1, g j 2, g j 3⟩), rfl, hnc, hn, ⟨by simp, fun h0 => ?_⟩, fun s hs => ?_⟩
 ·obtain ⟨b2, o2, rfl, hl2, hc2⟩ := k1 h0
  refine ⟨b2, o2, rfl, hl2, fun j hj => ?_⟩
  rw [gs_mk hj]
  exact ⟨hc2 j hj 0 (by omega), hc2 j hj 1 (by omega), hc2 j hj 2 (by omega), hc2 j hj 3 (by omega)⟩
 ·obtain ⟨j, hj, rfl⟩ := List.mem_map.1 hs
  exact i64_fit (k2 j (List.mem_range.1 hj) 3 (by omega))
set_option maxRecDepth 100000 in
/-- A problem that came in. -/
theorem open_vp {r : Reach} {b0 : Nat} {v : Value} {d : DataW H} {p : List MemPlace} (hv : Value.okWide Tryz.prog w r b0 29 v) (h : DataW.Trod enc Tryz.prog w base (fun _ => true) held 29 v d p) :
   ∃ A1 n1 c1 A2 n2 c2 A3 n3 c3 A4 n4 c4, ∃ q : Vb, v = .agg #[.slice A1 n1 c1, .slice A2 n2 c2, .int .i64 q.mn, .int .i64 q.F, .slice A3 n3 c3, .slice A4 n4 c4] ∧ Gr w A1 n1 A2 n2 q.ns q.es ∧ Fls w A3 n3 q.fl ∧ Vss w A4 n4 q.sd ∧ n4 ≤ c4 ∧ n4 ≤ 9223372036854775807 ∧ (n4 ≤ 1000000 → Lies q A1 A2 A3 A4 n1 n2 n3 n4 w) := by
 obtain ⟨cs, rfl, hsz⟩ := okWide_struct Tryz.underlying29 hv
 have hC : Tryz.prog.cellsOf 29 = 6 := by kernel_rfl
 have hS : Tryz.prog.cellsOf 25 = 3 := by kernel_rfl
 have hF : Tryz.prog.cellsOf 26 = 1 := by kernel_rfl
 have hV : Tryz.prog.cellsOf 27 = 1 := by kernel_rfl
 have hN : Tryz.prog.cellsOf 22 = 1 := by kernel_rfl
 have hE : Tryz.prog.cellsOf 23 = 1 := by kernel_rfl
 rw [hC] at hsz
 obtain ⟨l⟩ := cs
 match l, hsz with
 | [v0, v1, v2, v3, v4, v5], _ =>
 obtain ⟨fuel, hf⟩ := h
 obtain ⟨y0, y1, y2, y3, m, -, -, h0, h1, h2, h3⟩ := trod_struct4 Tryz.underlying29 hf
 simp only [Value.cells, hS, hc1, hF, hV, List.drop_zero, List.drop_succ_cons, List.take_succ_cons, List.take_zero] at h0 h1 h2 h3
 obtain ⟨x0, x1, x2, m', -, -, g0, g1, g2⟩ := Go.Deep.trod_struct3 Tryz.underlying25 h0
 simp only [hN, hE, hc1, List.drop_zero, List.drop_succ_cons, List.take_succ_cons, List.take_zero] at g0 g1 g2
 obtain ⟨A1, n1, c1, A2, n2, c2, ns, es, rfl, rfl, hg⟩ := open_gr g0 g1
 obtain ⟨mn, e2, -, -⟩ := DataW.trod_int Tryz.underlying3 g2
 injection e2 with e2
 subst e2
 obtain ⟨F, e3, -, -⟩ := DataW.trod_int Tryz.underlying3 h1
 injection e3 with e3
 subst e3
 obtain ⟨A3, n3, c3, ls, rfl, hfl, hf1, hf2⟩ := open_flows h2
 obtain ⟨A4, n4, c4, sd, rfl, hnc, hn4, hsd, hs1⟩ := open_seeds h3
 exact ⟨A1, n1, c1, A2, n2, c2, A3, n3, c3, A4, n4, c4, ⟨ns, es, mn, F, ls, sd⟩, rfl, hg, hfl, hsd, hnc, hn4, fun h4 => ⟨hg.nd, hg.ed, hfl, hsd, hf2, hg.wn, hg.we, ⟨hf1, hs1⟩, h4⟩⟩
end
theorem shiftNamed : Tryz.prog.globalNamed "dataflow/ide.shift" = some 0 := by kernel_rfl
theorem shiftType : (Tryz.prog.globals[0]?).map (·.type) = some 71 := by kernel_rfl
theorem gv_of_laid {W : World} (h : laidMetH Tryz.prog [("dataflow/ide.shift", Rows.laid_dataflow_ide_shift)] W) : Gv W := by
 have h' : laidMet Tryz.prog [("dataflow/ide.shift", Rows.laid_dataflow_ide_shift)] W := h
 obtain ⟨ps, ⟨g, t, cs, fuel, p, q, hg, ht, hvar, hd, _, _⟩, _⟩ := h'
 obtain rfl := Option.some.inj (shiftNamed.symm.trans hg)
 obtain rfl := Option.some.inj (shiftType.symm.trans ht)
 obtain ⟨z0, z1, z2, e, -, -, -, hy⟩ := open_xform _ _ _ hd
 have e0 : z0 = 2 ∧ z1 = 0 ∧ z2 = 0 := by
  simp [Rows.laid_dataflow_ide_shift] at hy
  omega
 obtain ⟨rfl, rfl, rfl⟩ := e0
 obtain ⟨l⟩ := cs
 have e' : l = [(2 : Int), 0, 0].map (Value.int .i64) := e
 subst e'
 have c0 := World.var?_cell hg hvar 0
 have c1 := World.var?_cell hg hvar 1
 have c2 := World.var?_cell hg hvar 2
 exact ⟨c0, c1, c2, cell_lt (p := ⟨0, 0, none⟩) c0⟩
noncomputable def laidWorld (os : Os) : World :=
  let w0 := World.holding Tryz.prog os ⟨#[], #[], []⟩
  { w0 with heap := w0.heap.modify 0 fun
      | .cells _ t frozen => .cells #[.int .i64 2, .int .i64 0, .int .i64 0] t frozen
      | o => o }
theorem laidWorld_met (os : Os) (args : Array Value) : laidMetH Tryz.prog [("dataflow/ide.shift", Rows.laid_dataflow_ide_shift)] ((laidWorld os).forCall (fun _ _ => 0) ⟨#[], args, []⟩).memory :=
 laidMetH_of_parts (laidMet_of_run' 8 (by kernel_rfl) (by kernel_rfl)) (by kernel_rfl)
end Go.Proofs.YtincpmdldpakkaaGreatDoor
namespace Go.Proofs.YtincpmdldpakkaaGreatDoor
open Go.RowKit
theorem Tryz.own : ownKnob Tryz.prog.godebug = none := by kernel_rfl
theorem Tryz.closed : (List.range Tryz.prog.types.size).all (Go.Df.closedB Tryz.prog Tryz.prog.types.size) = true := by kernel_rfl
end Go.Proofs.YtincpmdldpakkaaGreatDoor

