/- Texts: Vz Kuz Vs Kqz Zt Zu Vv. -/
import Derived.Test.YtooejoajojanjaaGreatDoorXSg27
import Derived.Test.YtooejoajojanjaaGreatDoorXSg12
import Derived.Test.YtooejoajojanjaaGreatDoorXSg23
import Derived.Test.YtooejoajojanjaaGreatDoorXSg14
import Derived.Test.YtooejoajojanjaaGreatDoorXSg28
import Derived.Test.YtooejoajojanjaaGreatDoorXSg20
import Derived.Test.YtooejoajojanjaaGreatDoorXSg05
import Derived.Test.YtooejoajojanjaaGreatDoorXSg24
import Derived.Test.YtooejoajojanjaaGreatDoorXSg13
import Derived.Test.YtooejoajojanjaaGreatDoorXSg07
import Derived.Test.YtooejoajojanjaaGreatDoorProg
import Derived.Shelf.SlIterI.Nil
import Derived.Shelf.SortM.Plain
import Derived.Shelf.SortM.SortNone
import Derived.Test.YtooejoajojanjaaGreatDoorXSg10
import Derived.Lib.SlKeysI
import Derived.Test.YtooejoajojanjaaGreatDoorXSg26
namespace Go.Df
open Go.RowKit
namespace If
open Sp
theorem SmC.at {w : World} {A : Option Addr} {n : Nat} {L : List Su} (h : SmC w A n L) (hn : 0 < n) : ∃ b o, A = some ⟨b, o, none⟩ ∧ b < w.heap.size := by
 obtain ⟨b, o, e, hl, -⟩ := h.mem hn
 exact ⟨b, o, e, hl⟩
end If
end Go.Df
namespace Go.Proofs.YtooejoajojanjaaGreatDoor
open Go.RowKit Go.Df Go.Df.If
attribute [local go_sem ↓] Go.wp_at_zero Go.wp_at_succ
theorem SuV.later {w w' : World} {L : List Su} {f : Int} {v : Value} (h : SuV w L f v) (hb : Below w.heap.size w w') : SuV w' L f v := by
 obtain ⟨fv, A, n, c, A', n', c', h1, h2, h3, h4, h5, h6, h7⟩ := h
 exact ⟨fv, A, n, c, A', n', c', h1, h2, h3, h4.later hb, h5.later hb, h6, h7⟩
theorem run_makeMapS (w : World) (z : Int) : (Instr.makeMap 96 (some (.int .i64 z))).run Tryz.prog w = .ok (.map (some w.heap.size)) (w.alloc (.map #[] 0)) := by
 simp [Instr.makeMap, run_underlying Tryz.mapIS, asInt, asIntOf, Result.andThen]
theorem retNamedS {P : Program} {f : Func} {Q : Ending → World → Prop} {e : Exit} {a : Act} {w : World} (S : World → Prop) (h0 : S w) (h : ∀ X, S X → bodyPost P f Q e a X) : bodyPost P f Q e a w := h w h0
def GetUse (p : Px) (w : World) (e : Ending) (w' : World) : Prop :=
 ∃ A1 m1 A2 m2, e = .returned (.tuple #[.agg #[.slice A1 p.ns.length m1, .slice A2 p.ns.length m2], .int .i64 0]) ∧ Bls w' A1 p.ns.length ((List.range p.ns.length).map (solRX p)) ∧ IntsR w' A2 p.ns.length ((List.range p.ns.length).map (solFX p)) ∧ Below w.heap.size w w'
set_option maxRecDepth 100000 in
set_option maxHeartbeats 40000000 in
theorem puse_ok {p : Px} {L : List Su} (A1 A2 A3 A4 AL : Option Addr) (n1 c1 n2 c2 n3 c3 n4 c4 nL cL mN F : Nat) (w : World) (hmi : MainIn p L) (hmn : p.mn = mN) (hF : p.F = (F : Nat)) (hG : Gr w A1 n1 A2 n2 p.ns p.es) (hfl : Flw w A3 n3 p.fl) (hsd : Sds w A4 n4 p.sd) (hn4 : n4 ≤ 1000000) (hS : SmC w AL nL L) (hpe : pbErr ⟨p.ns, p.es, (mN : Int), (F : Int), p.fl, p.sd⟩ = 0) :
   Calls Tryz.prog 23 #[.agg #[.slice A1 n1 c1, .slice A2 n2 c2, .int .i64 mN, .int .i64 (F : Nat), .slice A3 n3 c3, .slice A4 n4 c4], .slice AL nL cL] w (GetUse p w) := by
 have hN2 : n1 ≤ 8192 := by have := (sup_parts hmi.ok.sup).1; have := hG.nd.1; omega
 have hL2 : nL ≤ 256 := by have := (sum_ok.1 hmi.sum).2.1; have := hS.len; omega
 have HMI := Lib.hid hmi
 have HOX := Lib.hid hmi.okX
 have HMN := Lib.hid hmn
 have HF := Lib.hid hF
 have HG := Lib.hid hG
 have HFL := Lib.hid hfl
 have HSD := Lib.hid hsd
 have HS := Lib.hid hS
 have HPB := Lib.hid hpe
 have HSE : Hid (sumErr (F : Int) L = 0) := Lib.hid (by rw [← hF]; exact hmi.sum)
 have HNL : Hid (p.ns.length = n1) := Lib.hid hG.nd.1
 have hF1 : 0 < F := by have := hmi.ok.f1; omega
 have hmm := run_makeMapS
 clear hmi hmn hF hG hfl hsd hS hpe
 go_enter Tryz.func23, Tryz.ntmps23
 go_upto_region 1 with fail
 refine wp_named (fun W => ∃ b0 b1, w.heap.size = b0 ∧ w.heap.size + 1 = b1 ∧ Blk W b0 [.slice A1 n1 c1, .slice A2 n2 c2, .int .i64 mN, .int .i64 (F : Nat), .slice A3 n3 c3, .slice A4 n4 c4] ∧ Blk W b1 [.slice none 0 0, .slice none 0 0] ∧ Below w.heap.size w W) ⟨_, _, rfl, rfl, ?_, ?_, ?_⟩ ?_
 · exact (Blk.new _ _ _ _ (by first | rfl | simp)).alloc _
 · exact kbn
 · go_grown
 rintro W ⟨b0, b1, e0, e1, B0, B1, hB⟩
 rw [e1, e0]
 have G0 : w.heap.size ≤ b0 := by omega
 have n01 : b0 ≠ b1 := by omega
 have G1 : w.heap.size ≤ b1 := by omega
 have n10 : b1 ≠ b0 := by omega
 clear e0 e1
 have ⟨L0, C0, F0⟩ := B0
 have ⟨L1, C1, F1⟩ := B1
 have hkW : Kept [] w W := (Kept.refl _ _).call hB
 have HB1 := Lib.hid B1
 go_upto_region 2 with (go_at_call 49; refine (ifdsck_any A1 A2 A3 A4 n1 c1 n2 c2 n3 c3 n4 c4 mN F p.ns p.es p.fl p.sd _ (HG.out.nd.later hkW.toBelow) (HG.out.ed.later hkW.toBelow) (HFL.out.later hkW.toBelow) (HSD.out.later hkW.toBelow) (by omega) HG.out.wn HG.out.we).mono ?_; rw [HPB.out]; rintro e w1 ⟨rfl, hb1⟩)
 have hkW1 : Kept [] W w1 := (Kept.refl _ _).call hb1
 have hkw1 : Kept [] w w1 := keptTrans hkW hkW1
 have B01 := Lib.hid (hkW1.blk (by simp) B0)
 have ⟨L01, C01, F01⟩ := B01.out
 clear C0 F0 C1 F1
 go_upto_region 5 with (go_at_call 11; refine (sumck_any AL nL cL L F _ (HS.out.sm.later hkw1.toBelow) (by omega)).mono ?_; rw [HSE.out]; rintro e w2 ⟨rfl, hb2⟩)
 have hk12 : Kept [] w1 w2 := (Kept.refl _ _).call hb2
 have hkw2 : Kept [] w w2 := keptTrans hkw1 hk12
 have B02 := Lib.hid (hk12.blk (by simp) B01.out)
 have ⟨L02, C02, F02⟩ := B02.out
 clear C01 F01
 go_upto_region 8 with fail
 refine wp_named (fun X => ∃ y, w2.heap.size = y ∧ MapQ Tryz.prog 3 (.agg #[.int .i64 0, .slice none 0 0, .slice none 0 0]) X y 0 (fun _ => .agg #[.int .i64 0, .slice none 0 0, .slice none 0 0]) ∧ Kept [] w2 X) ⟨_, rfl, MapQ.made _ _ _ _ _ rfl, (Kept.refl _ _).alloc _⟩ ?_
 rintro V ⟨kb, ekb, hmq, hkV⟩
 rw [ekb]
 have hkb2 : w2.heap.size ≤ kb := by omega
 have hkwV : Kept [] w V := keptTrans hkw2 hkV
 have B0V := Lib.hid (hkV.blk (by simp) B02.out)
 have ⟨L0V, C0V, F0V⟩ := B0V.out
 have HMQ0 := Lib.hid hmq
 have hb0k : b0 ≠ kb := by have := B02.out.1; omega
 clear C02 F02 ekb hmq hmm
 go_wp2_with fail
 go_loopw [31] (fun s31 wr => ∃ (i : Nat) (v : Value → Value), i ≤ nL ∧ s31 = .int .i64 i ∧ Kept [kb] V wr ∧ Hid (MapQ Tryz.prog 3 (.agg #[.int .i64 0, .slice none 0 0, .slice none 0 0]) wr kb i v) ∧ Hid (∀ f : Int, (Lit.int .i64 f).wf = true → SuV w (L.take i) f (v (.int .i64 f)))) (fun s31 _ => nL - (intOf s31).toNat)
 case atStart => exact ⟨0, _, Nat.zero_le _, rfl, Kept.refl _ _, HMQ0, Lib.hid (fun f _ => SuV.no0 w f)⟩
 case round =>
 clear HMQ0 C0V F0V
 obtain ⟨i, v, hi, rfl, hkr, HMQ, HSV⟩ := hrel
 have hkwr : Kept [] w wr := kept_fresh hkwV hkr (by simp; have := hkw2.size; omega)
 by_cases hlt : i < nL
 case pos =>
   have hi9 : (i : Int) < (nL : Int) := by omega
   obtain ⟨bL, oL, rfl, hlL, hcL⟩ := HS.out.mem (by omega)
   obtain ⟨E, ne, ce, T, nt, ct, s1, s2, s3, hpE, hpT, hEc, hTc⟩ := hcL i hlt
   obtain ⟨sf, hsf⟩ : ∃ y, (gS L i).f = y := ⟨_, rfl⟩
   rw [hsf] at s1
   have hil : i < L.length := by rw [HS.out.len]; exact hlt
   have HFN := (sum_ok.1 HSE.out).2.2 i hil
   have HWF : Hid ((Lit.int .i64 sf).wf = true) := Lib.hid (by
     have h1 := HFN.1
     unfold fnErr at h1
     split at h1
     · cases h1
     · rename_i h2
       exact WalkArith.wf_i64 (by omega))
   have HST := Lib.hid (fun (g : Value → Value) (g1 : g (.int .i64 (gS L i).f) = .agg #[.int .i64 (gS L i).f, .slice E ne ce, .slice T nt ct]) (g2 : ∀ x, x ≠ .int .i64 (gS L i).f → g x = v x) => SuV.step HSE.out hil hpE hpT hEc hTc HSV.out g1 g2)
   rw [hsf] at HST
   replace s1 := (hkwr.cell bL _ hlL (by simp)).trans s1
   replace s2 := (hkwr.cell bL _ hlL (by simp)).trans s2
   replace s3 := (hkwr.cell bL _ hlL (by simp)).trans s3
   have hlLr : bL < wr.heap.size := Nat.lt_of_lt_of_le hlL hkwr.size
   clear hcL hpE hpT hsf HFN HSV
   go_upto_region 11 with fail
   refine wp_named (fun X => ∃ y, wr.heap.size = y ∧ Blk X y [.int .i64 sf, .slice E ne ce, .slice T nt ct] ∧ Kept [] wr X) ⟨_, rfl, Blk.new _ _ _ _ rfl, (Kept.refl _ _).alloc _⟩ ?_
   rintro U ⟨y, ey, By, hkU⟩
   rw [ey]
   have ⟨Ly, Cy, Fy⟩ := By
   have HMU := Lib.hid (HMQ.out.kept hkU (by simp))
   have hlen : i < maxLen := by unfold maxLen; omega
   clear s1 s2 s3 ey HMQ
   go_wp2_with (at_mapUpdate; refine wpList_store_mapQ _ rfl _ _ _ 96 rfl 3 30 Tryz.lawInt Tryz.mapIS (.agg #[.int .i64 0, .slice none 0 0, .slice none 0 0]) kb i v rfl HMU.out hlen (.int .i64 sf) (.agg #[.int .i64 sf, .slice E ne ce, .slice T nt ct]) _ rfl rfl (Tryz.keyInt sf HWF.out) (updV (fun _ => v) 0 (.int .i64 sf) (.agg #[.int .i64 sf, .slice E ne ce, .slice T nt ct]) 0) (updV_at _ _ _ _) (fun x hx => updV_key _ _ _ _ _ hx) ?_; intro w9 hmt hk9; have HMT := Lib.hid hmt; clear hmt)
   exact ⟨⟨i + 1, _, by omega, by go_num, (hkr.next hkU (by simp)).next hk9 (fun y hy => .inl hy), HMT, Lib.hid (HST.out _ (updV_at (fun _ => v) 0 _ _) (fun x hx => updV_key (fun _ => v) 0 _ _ x hx))⟩, by simp [intOf]; omega⟩
 obtain rfl : i = nL := by omega
 have HTK : Hid (L.take i = L) := Lib.hid (List.take_of_length_le (by rw [HS.out.len]; exact Nat.le_refl _))
 have B0r := Lib.hid (hkr.blk (by simpa using hb0k) B0V.out)
 have ⟨L0r, C0r, F0r⟩ := B0r.out
 clear hlt hi
 go_upto_region 14 with (go_at_call 50; refine (newSolver_any (p := p.toPb) (some kb) A1 A2 A3 A4 n1 c1 n2 c2 n3 c3 n4 c4 mN F _ HMN.out HF.out (HG.out.nd.later hkwr.toBelow) (HG.out.ed.later hkwr.toBelow) (HFL.out.later hkwr.toBelow) (HSD.out.later hkwr.toBelow) HOX.out.ok hn4).mono ?_; rintro e w3 ⟨K, g, O, G, rfl, hkv, hI, hM⟩)
 have HKV := Lib.hid hkv
 have HI := Lib.hid hI
 have M3 := Lib.hid hM
 have hK1 : p.ns.length = K.n1 := hI.nd.1
 have ⟨L03, C03, F03⟩ := B0r.out.later hM.low
 have hlow3 : Below w.heap.size w w3 := hkwr.toBelow.trans (hM.low.mono hkwr.size)
 have HKX3 : Hid (KnX p K wr O w3) := Lib.hid ⟨fun h => by (rw [HMI.out.kn] at h; cases h), fun _ x hx => HG.out.wn x (by rw [← HNL.out]; exact hx), fun L' hL => by
   rw [HMI.out.kn] at hL
   injection hL with hL
   subst hL
   refine ⟨kb, i, v, HKV.out, ⟨Nat.lt_of_lt_of_le HMQ.out.lt M3.out.low.size, fun h => ?_⟩, HMQ.out.same (((Kept.refl [] wr).call M3.out.low).block kb HMQ.out.lt (by simp)), fun f hf => ?_⟩
   · have := (M3.out.og kb h).1
     have := HMQ.out.lt
     omega
   · have h1 := HSV.out f hf
     rw [HTK.out] at h1
     exact h1.later hkwr.toBelow⟩
 have hm0 := main_in (sup_parts HOX.out.ok.sup).2.2.1
 have hmn0 : mN < p.ns.length := by have := HMN.out; omega
 have hF0 : 0 < p.F.toNat := by have := HF.out; omega
 have HIN : Hid (initS p.ini noSt = noSt.add mN 0 0) := Lib.hid (by
   rw [HMI.out.ini, HMN.out]
   rfl)
 clear C0r F0r hkv hI hM hm0
 go_upto_region 15 with (go_at_call 51; refine (add_any _ mN 0 0 HI.out HOX.out.ok (noSt_wf _) M3.out hmn0 hF0 hF0).mono ?_; intro e w4 hG4; obtain ⟨O4, G4, rfl, hM4, hF4⟩ := hG4)
 have M4 : Hid (Mem p.toPb K wr g O4 G4 w4 (initS p.ini noSt)) := Lib.hid (hM4.eq HIN.out.symm)
 have HKX4 := Lib.hid (HKX3.out.fx hF4)
 have ⟨L04, C04, F04⟩ := B0r.out.later hM4.low
 clear C03 F03 hM4 hF4 HKX3 M3
 go_upto_region 16 with (go_at_call 52; refine (run_any _ HI.out HOX.out M4.out HKX4.out (initX_inv HOX.out)).mono ?_; rintro e w5 ⟨O5, G5, s5, rfl, hM5, hpe5, hwf5, hfx5⟩)
 have M5 := Lib.hid hM5
 have HPE5 := Lib.hid hpe5
 have HWF5 := Lib.hid hwf5
 have hlow5 : Below w.heap.size w w5 := hkwr.toBelow.trans (hM5.low.mono hkwr.size)
 have hk15 : Kept [] w w5 := (Kept.refl [] w).call hlow5
 have hwr1 : Kept [] W wr := kept_fresh (keptTrans (keptTrans hkW1 hk12) hkV) hkr (by simp; have := (keptTrans hkW1 hk12).size; omega)
 have hW5 : Kept [] W w5 := (hwr1.call hM5.low)
 have B15 := Lib.hid (hW5.blk (by simp) HB1.out)
 have ⟨L05, C05, F05⟩ := B0r.out.later hM5.low
 have ⟨L15, C15, F15⟩ := B15.out
 clear C04 F04 hM5 hpe5 hwf5 hfx5
 go_wp2_with (go_at_call 53; refine (solution_any _ M5.out HOX.out HWF5.out hK1 HPE5.out).mono ?_; rintro e w6 ⟨Ar, Af, nr, rfl, hnr, hso, hb6⟩; have HSO := Lib.hid hso; have HNR := Lib.hid hnr; have ⟨L16, C16, F16⟩ := B15.out.later hb6; clear hso hnr)
 have hk6 : Kept [] w5 w6 := (Kept.refl _ _).call hb6
 have B16 := hk6.blk (by simp) B15.out
 refine retNamedS (fun X => Blk X b1 [.slice Ar nr nr, .slice Af nr nr] ∧ Kept [b1] w6 X) ⟨(B16.set 0 _).set 1 _, ((Kept.refl [b1] w6).set b1 0 _ (.inl (by simp))).set b1 1 _ (.inl (by simp))⟩ ?_
 rintro X ⟨BX, hkX⟩
 have ⟨LX, CX, FX⟩ := BX
 refine bodyPost_ret (by simp [results, Tryz.results23, go_sem, CX]; try rfl) rfl ?_
 have hbX : Below w.heap.size w X := (kept_fresh (hk15.call hb6) hkX (by simpa using G1)).toBelow
 obtain ⟨hq1, hq2⟩ := HSO.out X [b1] hkX (by have := L15; simpa using this)
 have hnr := HNR.out
 subst hnr
 exact ⟨Ar, _, Af, _, rfl, hq1, hq2, hbX⟩
end Go.Proofs.YtooejoajojanjaaGreatDoor
namespace Go.Df
open Go.RowKit
namespace If
def anyT (F : Nat) (T : Nat → Nat → Nat → Bool) (n y : Nat) : Bool := (List.range F).any fun a => T n a y
def tabL (F : Nat) (T : Nat → Nat → Nat → Bool) (n d : Nat) : List Int := ofNats ((List.range d).filter fun y => y != 0 && anyT F T n y)
theorem tabL_one (F : Nat) (T : Nat → Nat → Nat → Bool) (n : Nat) : tabL F T n 1 = [] := by simp [tabL, List.range_succ, ofNats]
theorem tabL_no {F : Nat} {T : Nat → Nat → Nat → Bool} {n d : Nat} (h : anyT F T n d = false) : tabL F T n (d + 1) = tabL F T n d := by simp [tabL, List.range_succ, h]
theorem tabL_yes {F : Nat} {T : Nat → Nat → Nat → Bool} {n d : Nat} (hd : 1 ≤ d) (h : anyT F T n d = true) : tabL F T n (d + 1) = tabL F T n d ++ [(d : Int)] := by
 have : (d != 0) = true := by simp; omega
 simp [tabL, List.range_succ, h, ofNats, this]
theorem tabL_len (F : Nat) (T : Nat → Nat → Nat → Bool) (n d : Nat) : (tabL F T n d).length ≤ d := by
 have h := List.length_filter_le (fun y => y != 0 && anyT F T n y) (List.range d)
 simpa [tabL, ofNats] using h
theorem any_succ (f : Nat → Bool) (a : Nat) : (List.range (a + 1)).any f = ((List.range a).any f || f a) := by simp [List.range_succ]
def RwI (base : Nat) (ti : TypeId) (R : Nat → Option Addr × Nat × Nat) (L : Nat → List Int) (n : Nat) (w : World) : Prop :=
 ∀ x, x < n → Ints w (R x).1 (R x).2.1 (L x) ∧ (R x).2.1 ≤ 9223372036854775807 ∧ ∀ a, (R x).1 = some a → base ≤ a.block ∧ Tag w a.block ti
theorem RwI.kept {base : Nat} {ti : TypeId} {R : Nat → Option Addr × Nat × Nat} {L : Nat → List Int} {n : Nat} {X : List Nat} {w w' : World} (h : RwI base ti R L n w) (hk : Kept X w w') (hX : ∀ b, Tag w b ti → base ≤ b → b ∉ X) : RwI base ti R L n w' := fun x hx => by
 obtain ⟨h1, h2, h3⟩ := h x hx
 exact ⟨ints_keptT h1 hk (fun a ha => hX _ (h3 a ha).2 (h3 a ha).1), h2, fun a ha => ⟨(h3 a ha).1, (h3 a ha).2.same (hk.block _ (h3 a ha).2.lt (hX _ (h3 a ha).2 (h3 a ha).1))⟩⟩
def updK9 (f : Nat → Option Addr × Nat × Nat) (n : Nat) (x : Option Addr × Nat × Nat) : Nat → Option Addr × Nat × Nat := fun i => if i = n then x else f i
theorem RwI.snoc {base : Nat} {ti : TypeId} {R : Nat → Option Addr × Nat × Nat} {L : Nat → List Int} {n : Nat} {w : World} (h : RwI base ti R L n w) {A : Option Addr} {m c : Nat} (hA : Ints w A m (L n)) (hm : m ≤ 9223372036854775807) (ha : ∀ a, A = some a → base ≤ a.block ∧ Tag w a.block ti) : RwI base ti (updK9 R n (A, m, c)) L (n + 1) w := fun x hx => by
 unfold updK9
 by_cases e : x = n
 · subst e; rw [if_pos rfl]; exact ⟨hA, hm, ha⟩
 · rw [if_neg e]; exact h x (by omega)
theorem rowsR_snoc (R : Nat → Option Addr × Nat × Nat) (n m c : Nat) (A : Option Addr) : ((List.range n).map fun x => Value.slice (R x).1 (R x).2.1 (R x).2.2) ++ [Value.slice A m c] = (List.range (n + 1)).map fun x => Value.slice (updK9 R n (A, m, c) x).1 (updK9 R n (A, m, c) x).2.1 (updK9 R n (A, m, c) x).2.2 := by
 rw [List.range_succ, List.map_append]
 congr 1
 · refine List.map_congr_left fun x hx => ?_
   have : x ≠ n := by have := List.mem_range.1 hx; omega
   simp [updK9, this]
 · simp [updK9]
theorem mapB_snoc (f : Nat → Bool) (n : Nat) (v : Bool) (h : f n = v) : ((List.range n).map fun x => Value.bool (f x)) ++ [Value.bool v] = (List.range (n + 1)).map fun x => Value.bool (f x) := by
 rw [List.range_succ, List.map_append, ← h]
 rfl
end If
end Go.Df
namespace Go.Proofs.YtooejoajojanjaaGreatDoor
open Go.RowKit Go.Df Go.Df.If
attribute [local go_sem ↓] Go.wp_at_zero Go.wp_at_succ
set_option maxRecDepth 100000 in
set_option maxHeartbeats 8000000 in
theorem rsolof_any {N F : Nat} {X : List Nat} {bs : Nat → Nat} {r : Nat} {T : Nat → Nat → Nat → Bool} (c : Nat) (w : World) (hT : TabM N F X bs r w T) (hN8 : N ≤ 8192) (hF1 : 0 < F) (hF8 : F ≤ 1024) :
   Calls Tryz.prog 57 #[tabV N F r c] w fun e w' => ∃ A1 c1 A2 c2, e = .returned (.agg #[.slice A1 N c1, .slice A2 N c2]) ∧ (∀ Y XX, Kept XX w' Y → (∀ x ∈ XX, x < w.heap.size) → Bls Y A1 N ((List.range N).map fun x => T x 0 0) ∧ IntsR Y A2 N ((List.range N).map fun x => tabL F T x F)) ∧ Below w.heap.size w w' := by
 obtain ⟨i0, hi, hz0, hz1, hz2⟩ := info_parts booli_info
 obtain ⟨i1, hj, hy0, hy1, hy2⟩ := info_parts inti_info
 obtain ⟨i2, hl, hx0, hx1, hx2⟩ := info_parts rowi_info
 have HT := Lib.hid hT
 have hrl := hT.rl
 clear hT
 go_enter Tryz.func57, Tryz.ntmps57
 go_upto_region 1 with fail
 refine wp_named (fun W => ∃ b0 b1, w.heap.size = b0 ∧ w.heap.size + 1 = b1 ∧ Blk W b0 [.int .i64 (F : Nat), .slice (some ⟨r, 0, none⟩) N c] ∧ Blk W b1 [.slice none 0 0, .slice none 0 0] ∧ Below w.heap.size w W) ⟨_, _, rfl, rfl, ?_, ?_, ?_⟩ ?_
 · exact (Blk.new _ _ _ _ (by first | rfl | simp)).alloc _
 · exact kbn
 · go_grown
 rintro W ⟨b0, b1, e0, e1, B0, B1, hB⟩
 rw [e1, e0]
 have G0 : w.heap.size ≤ b0 := by omega
 have n01 : b0 ≠ b1 := by omega
 have G1 : w.heap.size ≤ b1 := by omega
 have n10 : b1 ≠ b0 := by omega
 clear e0 e1
 have ⟨L0, C0, F0⟩ := B0
 have ⟨L1, C1, F1⟩ := B1
 go_upto_region 3 with fail
 refine wp_named (fun V => ∃ g, W.heap.size = g ∧ Blk V g [.slice none 0 0, .slice none 0 0] ∧ Kept [] W V) ⟨_, rfl, Blk.new _ _ _ _ rfl, (Kept.refl _ _).alloc _⟩ ?_
 rintro V ⟨g, eg, Bg, hkV⟩
 rw [eg]
 have hgV : g < V.heap.size := Bg.1
 have hb0g : b0 ≠ g := by omega
 have hb1g : b1 ≠ g := by omega
 have hgw : w.heap.size ≤ g := by have := hB.size; omega
 have B0V := hkV.blk (by simp) B0
 have B1V := hkV.blk (by simp) B1
 have hwV : Kept [] w V := ((Kept.refl [] w).call hB).next hkV (by simp)
 have HBg := Lib.hid Bg
 have TV := Lib.hid (HT.out.kept0 hwV)
 have hrg : r ≠ g := by omega
 have HXg : Hid (∀ x ∈ X, x ≠ g) := (fun x hx e => by have := HT.out.lt x hx; omega)
 clear C0 F0 C1 F1 eg Bg
 go_wp2_with fail
 go_loopw [4] (fun s4 wr => ∃ (n : Nat) (A : Option Addr) (cA : Nat) (B : Option Addr) (cB : Nat) (R : Nat → Option Addr × Nat × Nat), n ≤ N ∧ s4 = .int .i64 n ∧ Kept [g] V wr ∧ Hid (Blk wr g [.slice A n cA, .slice B n cB]) ∧ Hid (wr.ownsRow V.heap.size 4 1 (.slice A n cA) n ((List.range n).map fun x => Value.bool (T x 0 0))) ∧ Hid (wr.ownsRow V.heap.size 31 1 (.slice B n cB) n ((List.range n).map fun x => Value.slice (R x).1 (R x).2.1 (R x).2.2)) ∧ Hid (RwI V.heap.size 3 R (fun x => tabL F T x F) n wr)) (fun s4 _ => N - (intOf s4).toNat)
 case atStart => exact ⟨0, none, 0, none, 0, fun _ => (none, 0, 0), Nat.zero_le _, rfl, Kept.refl _ _, HBg, Lib.hid (World.ownsRow_nil _ _ _ _), Lib.hid (World.ownsRow_nil _ _ _ _), Lib.hid (fun x h => absurd h (by omega))⟩
 case round =>
 clear HBg
 obtain ⟨n, A, cA, B, cB, R, hn, rfl, hkr, BG, ownA, ownB, RW⟩ := hrel
 have BR0 := hkr.blk (by simpa using hb0g) B0V
 have BR1 := hkr.blk (by simpa using hb1g) B1V
 have ⟨L0r, C0r, F0r⟩ := BR0
 have ⟨LGr, CGr, FGr⟩ := BG.out
 have hsz := hkr.size
 have TR := Lib.hid (TV.out.kept hkr (by simpa using hrg) (fun x hx => by simpa using HXg.out x hx))
 by_cases hlt : n < N
 case neg =>
   obtain rfl : n = N := by omega
   have ⟨L1r, C1r, F1r⟩ := BR1
   have hwr : Kept [] w wr := kept_fresh hwV hkr (by simpa using hgw)
   go_wp2_with fail
   refine retNamedT (fun Y => Blk Y b1 [.slice A n cA, .slice B n cB] ∧ Kept [b1] wr Y) ⟨(BR1.set 0 _).set 1 _, ((Kept.refl [b1] wr).set b1 0 _ (.inl (by simp))).set b1 1 _ (.inl (by simp))⟩ ?_
   rintro Y ⟨BY, hkY⟩
   have ⟨LY, CY, FY⟩ := BY
   have hb1V : b1 < V.heap.size := B1V.1
   refine bodyPost_ret (by simp [results, Tryz.results57, go_sem, CY]; try rfl) rfl ?_
   refine ⟨A, cA, B, cB, rfl, fun Y2 XX hk2 hXX => ?_, (kept_fresh hwr hkY (by simpa using G1)).toBelow⟩
   have hkk : Kept (b1 :: XX) wr Y2 := (keptWide hkY (by simp)).next hk2 (fun y hy => .inl (by simp [hy]))
   have hVX : ∀ x ∈ b1 :: XX, x < V.heap.size := fun x hx => by
     rcases List.mem_cons.1 hx with rfl | hx
     · exact hb1V
     · have := hXX x hx; have := hwV.size; omega
   have RWY := RW.out.kept hkk (fun b _ hb h => by have := hVX b h; omega)
   refine ⟨⟨by simp, fun h0 => ?_⟩, ⟨by simp, fun h0 => ?_⟩⟩
   · obtain ⟨q, cq, hv, hbq, hql, -, -, hcell, -⟩ := own_cellsT ownA.out h0
     injection hv with e1 e2 e3
     refine ⟨q, 0, e1, Nat.lt_of_lt_of_le hql hkk.size, fun x hx => ?_⟩
     rw [Nat.zero_add, hkk.cell q _ hql (fun h => by have := hVX q h; omega), hcell x (by omega)]
     simp [gbl, hx]
   · obtain ⟨q, cq, hv, hbq, hql, -, -, hcell, -⟩ := own_cellsT ownB.out h0
     injection hv with e1 e2 e3
     refine ⟨q, 0, e1, Nat.lt_of_lt_of_le hql hkk.size, fun x hx => ?_⟩
     obtain ⟨h1, h2, -⟩ := RWY x hx
     refine ⟨(R x).1, (R x).2.1, (R x).2.2, ?_, ?_, h2⟩
     · rw [Nat.zero_add, hkk.cell q _ hql (fun h => by have := hVX q h; omega), hcell x (by omega)]
       simp [hx]
     · have e9 : gil ((List.range n).map fun x => tabL F T x F) x = tabL F T x F := by simp [gil, hx]
       rw [e9]
       exact h1
 have hn9 : (n : Int) < (N : Int) := by omega
 obtain ⟨v, hv⟩ : ∃ v, T n 0 0 = v := ⟨_, rfl⟩
 have HV := Lib.hid hv
 have HAB := Lib.hid (mapB_snoc (fun x => T x 0 0) n v hv)
 have HXA : Hid (∀ y ∈ (Value.slice A n cA).ownBlock.toList, V.heap.size ≤ y) := (fun y hy => own_ge ownA.out (by simpa using hy))
 have xg : g ∉ (Value.slice A n cA).ownBlock.toList := fun hm => by have := HXA.out g hm; omega
 have xb0 : b0 ∉ (Value.slice A n cA).ownBlock.toList := fun hm => by have := HXA.out b0 hm; have := B0V.1; omega
 have hgr : g < wr.heap.size := by omega
 have hb0r : b0 < wr.heap.size := L0r
 clear hv
 go_upto_region 5 with fail
 refine wp_region_E 8 (fun w' => SXu (Value.slice A n cA).ownBlock.toList g b0 wr w') (by kernel_rfl) (by (first | (with_reducible assumption) | exact SXu.of (Kept.refl _ _).drew hgr hb0r xg xb0 | exact SXu.of (hHeld.1.call (by assumption)) hgr hb0r xg xb0 | exact SXu.of (hHeld.1.alloc _) hgr hb0r xg xb0 | exact SXu.of HKA.out hgr hb0r xg xb0)) (fun hHeld => ?_)
 refine WE_tk 0 ?_
 refine WE_tk 1 ?_
 refine WE_tk 2 ?_
 refine WE_tk 3 ?_
 refine WE_step 4 rfl (by kernel_rfl) (fun K hK => ?_)
 go_simp
 (go_at_call 64; refine (rtHas_is c 0 n 0 v _ (TR.out.kept0 (Kept.refl [] _).drew) hN8 hF8 hlt hF1 hF1 HV.out).mono ?_; rintro e w5 ⟨rfl, hb5⟩; have hk5 := Lib.hid (((Kept.refl [] wr).drew).call hb5))
 (try go_wp2_with fail)
 refine hK.out _ _ ?_ (fun hHeld => ?_)
 · (first | (with_reducible assumption) | exact SXu.of (Kept.refl _ _).drew hgr hb0r xg xb0 | exact SXu.of (hHeld.1.call (by assumption)) hgr hb0r xg xb0 | exact SXu.of (hHeld.1.alloc _) hgr hb0r xg xb0 | exact SXu.of HKA.out hgr hb0r xg xb0)
 clear hK K
 refine WE_put ?_
 refine WE_step 5 rfl (by kernel_rfl) (fun K hK => ?_)
 go_simp
 refine hK.out _ _ ?_ (fun hHeld => ?_)
 · (first | (with_reducible assumption) | exact SXu.of (Kept.refl _ _).drew hgr hb0r xg xb0 | exact SXu.of (hHeld.1.call (by assumption)) hgr hb0r xg xb0 | exact SXu.of (hHeld.1.alloc _) hgr hb0r xg xb0 | exact SXu.of HKA.out hgr hb0r xg xb0)
 clear hK K
 refine WE_put ?_
 refine WE_step 6 rfl (by kernel_rfl) (fun K hK => ?_)
 (refine step_append_rd _ rfl _ _ 51 rfl V.heap.size 4 i0 (.bool false) 1 1 Tryz.underlying51 hi hz0 hz1 hz2 rfl (by decide) (.slice A n cA) n _ rfl (own_keptT (X := []) ownA.out (hk5.out.alloc _) (by simp)) (some ⟨w5.heap.size, 0, none⟩) 1 1 [.bool v] rfl (Rd.new1 _ _ _ _ rfl) (fun h => by cases h) (by intro u hu; simp at hu; subst hu; rfl) (n + 1) rfl _ HAB.out (by unfold maxLen; omega) (by omega) (by have := hk5.out.size; simp; omega) ?_; intro A9 c9 w4 hown4 hk4 hat4; have hkA : Kept (Value.slice A n cA).ownBlock.toList wr w4 := ((keptWide hk5.out (by simp)).alloc _).next hk4 (fun y hy => Or.inl hy); have ⟨LG4, CG4, FG4⟩ := hkA.blk xg BG.out; have HO4 := Lib.hid hown4; have HKA := Lib.hid hkA; clear hown4 hk4 hat4)
 refine hK.out _ _ ?_ (fun hHeld => ?_)
 · (first | (with_reducible assumption) | exact SXu.of (Kept.refl _ _).drew hgr hb0r xg xb0 | exact SXu.of (hHeld.1.call (by assumption)) hgr hb0r xg xb0 | exact SXu.of (hHeld.1.alloc _) hgr hb0r xg xb0 | exact SXu.of HKA.out hgr hb0r xg xb0)
 clear hK K
 refine WE_put ?_
 refine WE_tk 7 ?_
 refine WE_last rfl (by kernel_rfl) (fun K hK => ?_)
 go_simp
 refine hK.out _ _ ?_
 clear hK K
 have hks : Kept [g] w4 (w4.setCell ⟨g, 0, none⟩ (.slice A9 (n + 1) c9)) := (Kept.refl [g] w4).set g 0 _ (.inl (by simp))
 have hbA : ∀ b t, Tag wr b t → t ≠ 4 → b ∉ (Value.slice A n cA).ownBlock.toList := fun b t hb ht hm => by
   have h1 : (Value.slice A n cA).ownBlock = some b := by simpa using hm
   exact absurd rfl (hb.ne (own_tag ownA.out h1) ht)
 have hkS : Kept (g :: (Value.slice A n cA).ownBlock.toList) wr (w4.setCell ⟨g, 0, none⟩ (.slice A9 (n + 1) c9)) := (keptWide HKA.out (fun x hx => List.mem_cons_of_mem _ hx)).next hks (fun y hy => .inl (by rw [List.mem_singleton] at hy; simp [hy]))
 have tgI : ∀ b, Tag wr b 3 → V.heap.size ≤ b → b ∉ g :: (Value.slice A n cA).ownBlock.toList := fun b hb hb2 hm => by
   rcases List.mem_cons.1 hm with rfl | hm
   · omega
   · exact hbA b _ hb (by decide) hm
 refine act_namedT (fun Z => Kept (g :: (Value.slice A n cA).ownBlock.toList) wr Z ∧ Blk Z g [.slice A9 (n + 1) c9, .slice B n cB] ∧ Z.ownsRow V.heap.size 4 1 (.slice A9 (n + 1) c9) (n + 1) ((List.range (n + 1)).map fun x => Value.bool (T x 0 0)) ∧ Z.ownsRow V.heap.size 31 1 (.slice B n cB) n ((List.range n).map fun x => Value.slice (R x).1 (R x).2.1 (R x).2.2) ∧ RwI V.heap.size 3 R (fun x => tabL F T x F) n Z) ⟨?_, ?_, ?_, ?_, ?_⟩ ?_
 · exact hkS
 · exact ((HKA.out.blk xg BG.out).set 0 _)
 · exact own_keptT (X := [g]) HO4.out hks (fun y hy => by have := own_ge HO4.out hy; simp; omega)
 · exact own_keptT ownB.out hkS (fun y hy hm => by
     rcases List.mem_cons.1 hm with rfl | hm
     · have := own_ge ownB.out hy; omega
     · exact hbA y _ (own_tag ownB.out hy) (by decide) hm)
 · exact RW.out.kept hkS tgI
 rintro Z ⟨hkZ, BGZ, hA9, hBZ, hRZ⟩
 have hkVZ : Kept [g] V Z := hkr.next hkZ (fun y hy => by
   rcases List.mem_cons.1 hy with rfl | hy
   · exact .inl (by simp)
   · exact .inr (HXA.out y hy))
 have B0Z := hkVZ.blk (by simpa using hb0g) B0V
 have ⟨L0Z, C0Z, F0Z⟩ := B0Z
 have TZ := Lib.hid (TV.out.kept hkVZ (by simpa using hrg) (fun x hx => by simpa using HXg.out x hx))
 have OA9 := Lib.hid hA9
 have OBZ := Lib.hid hBZ
 have RZ := Lib.hid hRZ
 have HBGZ := Lib.hid BGZ
 have hszZ := hkVZ.size
 clear C0r F0r CGr FGr LG4 CG4 FG4 hA9 hBZ hRZ hkZ hks hkS hbA tgI HO4 HKA ownA ownB RW BG hHeld BGZ
 go_wp2_with fail
 go_loopw [5, 6] (fun s5 s6 wq => ∃ (d : Nat) (A' : Option Addr) (c' : Nat), 1 ≤ d ∧ d ≤ F ∧ s6 = .int .i64 d ∧ s5 = .slice A' (tabL F T n d).length c' ∧ Kept [] Z wq ∧ Hid (wq.ownsRow Z.heap.size 3 1 (.slice A' (tabL F T n d).length c') (tabL F T n d).length ((tabL F T n d).map (Value.int .i64)))) (fun _ s6 _ => F - (intOf s6).toNat)
 case atStart => exact ⟨1, none, 0, by omega, by omega, rfl, by rw [tabL_one]; rfl, Kept.refl _ _, Lib.hid (by rw [tabL_one]; exact World.ownsRow_nil _ _ _ _)⟩
 case round =>
 rename World => wq
 clear C0Z F0Z
 obtain ⟨d, A', c', hd1, hd, rfl, rfl, hkq, ownq⟩ := hrel
 obtain ⟨k, hk⟩ : ∃ k, (tabL F T n d).length = k := ⟨_, rfl⟩
 rw [hk] at ownq ⊢
 have hkd : k ≤ d := by have := tabL_len F T n d; omega
 have HKL := Lib.hid hk
 have BQ0 := hkq.blk (by simp) B0Z
 have ⟨L0q, C0q, F0q⟩ := BQ0
 have hsq := hkq.size
 have TQ := Lib.hid (TZ.out.kept0 hkq)
 clear hk
 by_cases hltd : d < F
 · have hd9 : (d : Int) < (F : Int) := by omega
   go_wp2_with fail
   go_loopw [7, 8] (fun s7 s8 wz => ∃ (a : Nat) (hb : Bool), a ≤ F ∧ s8 = .int .i64 a ∧ s7 = .bool hb ∧ Kept [] wq wz ∧ Hid ((List.range a).any (fun x => T n x d) = hb)) (fun _ s8 _ => F - (intOf s8).toNat)
   case atStart => exact ⟨0, false, Nat.zero_le _, rfl, rfl, Kept.refl _ _, Lib.hid rfl⟩
   case round =>
   rename World => wz
   clear C0q F0q
   obtain ⟨a, hb, ha, rfl, rfl, hkz, HHB⟩ := hrel
   have ⟨L0z, C0z, F0z⟩ := hkz.blk (by simp) BQ0
   have TZ2 := Lib.hid (TQ.out.kept0 hkz)
   have hkZz : Kept [] Z wz := hkq.next hkz (by simp)
   by_cases hlta : a < F
   · have ha9 : (a : Int) < (F : Int) := by omega
     cases hb with
     | true =>
       have HE : Hid ((List.range (a + 1)).any (fun x => T n x d) = true) := Lib.hid (by rw [any_succ, HHB.out, Bool.true_or])
       go_wp2_with fail
       exact ⟨⟨a + 1, true, by omega, by go_num, rfl, hkz, HE⟩, by simp [intOf]; omega⟩
     | false =>
       obtain ⟨v2, hv2⟩ : ∃ v2, T n a d = v2 := ⟨_, rfl⟩
       have HV2 := Lib.hid hv2
       have HE : Hid ((List.range (a + 1)).any (fun x => T n x d) = v2) := Lib.hid (by rw [any_succ, HHB.out, Bool.false_or, hv2])
       clear hv2
       go_wp2_with (go_at_call 64; refine (rtHas_is c a n d v2 _ TZ2.out hN8 hF8 hlt hlta hltd HV2.out).mono ?_; rintro e w6 ⟨rfl, hb6⟩)
       exact ⟨⟨a + 1, v2, by omega, by go_num, rfl, hkz.call hb6, HE⟩, by simp [intOf]; omega⟩
   · obtain rfl : a = F := by omega
     have OWz := Lib.hid (own_keptT (X := []) ownq.out hkz (by simp))
     have hHX : Hid (∀ y ∈ (Value.slice A' k c').ownBlock.toList, Z.heap.size ≤ y) := (fun y hy => own_ge ownq.out (by simpa using hy))
     cases hb with
     | false =>
       have e9 := tabL_no (d := d) (show anyT a T n d = false from HHB.out)
       have HL : Hid ((tabL a T n (d + 1)).length = k) := Lib.hid (by rw [e9, HKL.out])
       have HO : Hid (wz.ownsRow Z.heap.size 3 1 (.slice A' k c') k ((tabL a T n (d + 1)).map (Value.int .i64))) := Lib.hid (by rw [e9]; exact OWz.out)
       clear e9
       go_wp2_with fail
       exact ⟨⟨d + 1, A', c', by omega, by omega, by go_num, by rw [HL.out], hkZz, Lib.hid (by rw [HL.out]; exact HO.out)⟩, by simp [intOf]; omega⟩
     | true =>
       have e9 := tabL_yes (F := a) (T := T) (n := n) (d := d) hd1 (show anyT a T n d = true from HHB.out)
       have HL : Hid ((tabL a T n (d + 1)).length = k + 1) := Lib.hid (by rw [e9, List.length_append, HKL.out]; rfl)
       have HAP : Hid ((tabL a T n d).map (Value.int .i64) ++ [Value.int .i64 (d : Int)] = (tabL a T n (d + 1)).map (Value.int .i64)) := Lib.hid (by rw [e9, List.map_append]; rfl)
       clear e9
       go_wp2_with (at_builtin; refine wpList_append_rd _ rfl _ _ 31 rfl Z.heap.size 3 i1 (.int .i64 0) 1 8 Tryz.underlying31 hj hy0 hy1 hy2 rfl (by decide) (.slice A' k c') k _ rfl (own_keptT (X := []) OWz.out ((Kept.refl _ _).alloc _) (by simp)) (some ⟨wz.heap.size, 0, none⟩) 1 1 [.int .i64 (d : Int)] rfl (Rd.new1 _ _ _ _ rfl) (fun h => by cases h) (by intro u hu; simp at hu; subst hu; rfl) (k + 1) rfl _ HAP.out (by unfold maxLen; omega) (by omega) (by have := hkZz.size; simp; omega) ?_; intro A8 c8 w8 hown8 hk8 hat8; have hk9 := Lib.hid ((hkZz.alloc (.cells #[.int .i64 (d : Int)] 3)).next hk8 (fun y hy => Or.inr (hHX.out y hy))); have HO8 := Lib.hid hown8; clear hown8 hk8 hat8)
       exact ⟨⟨d + 1, A8, c8, by omega, by omega, by go_num, by rw [HL.out], hk9.out, Lib.hid (by rw [HL.out]; exact HO8.out)⟩, by simp [intOf]; omega⟩
 · obtain rfl : d = F := by omega
   have OBq := Lib.hid (own_keptT (X := []) OBZ.out hkq (by simp))
   have BGq := Lib.hid (hkq.blk (by simp) HBGZ.out)
   have ⟨LGq, CGq, FGq⟩ := BGq.out
   have OAq := Lib.hid (own_keptT (X := []) OA9.out hkq (by simp))
   have RQ := Lib.hid (RZ.out.kept hkq (fun _ _ _ => by simp))
   have HAB2 := Lib.hid (rowsR_snoc R n k c' A')
   have HXB : Hid (∀ y ∈ (Value.slice B n cB).ownBlock.toList, V.heap.size ≤ y) := (fun y hy => own_ge OBZ.out (by simpa using hy))
   have xgB : g ∉ (Value.slice B n cB).ownBlock.toList := fun hm => by have := HXB.out g hm; omega
   have hgq : g < wq.heap.size := by omega
   go_wp2_with (at_builtin; refine wpList_append_rd _ rfl _ _ 52 rfl V.heap.size 31 i2 (.slice none 0 0) 1 24 Tryz.underlying52 hl hx0 hx1 hx2 rfl (by decide) (.slice B n cB) n _ rfl (own_keptT (X := []) OBq.out ((Kept.refl _ _).alloc _) (by simp)) (some ⟨wq.heap.size, 0, none⟩) 1 1 [.slice A' k c'] rfl (Rd.new1 _ _ _ _ rfl) (fun h => by cases h) (by intro u hu; simp at hu; subst hu; rfl) (n + 1) rfl _ HAB2.out (by unfold maxLen; omega) (by omega) (by simp; omega) ?_; intro A8 c8 w8 hown8 hk8 hat8; have hkB : Kept (Value.slice B n cB).ownBlock.toList wq w8 := ((Kept.refl _ wq).alloc _).next hk8 (fun y hy => Or.inl hy); have ⟨LG8, CG8, FG8⟩ := hkB.blk xgB BGq.out; have HO8 := Lib.hid hown8; have HKB := Lib.hid hkB; clear hown8 hk8 hat8)
   have hks : Kept [g] w8 (w8.setCell ⟨g, 1, none⟩ (.slice A8 (n + 1) c8)) := (Kept.refl [g] w8).set g 1 _ (.inl (by simp))
   have hbB : ∀ b t, Tag wq b t → t ≠ 31 → b ∉ (Value.slice B n cB).ownBlock.toList := fun b t hb ht hm => by
     have h1 : (Value.slice B n cB).ownBlock = some b := by simpa using hm
     exact absurd rfl (hb.ne (own_tag OBq.out h1) ht)
   have h5 : ∀ a, A' = some a → V.heap.size ≤ a.block ∧ Tag wq a.block 3 := fun a ha => by
     obtain ⟨h6, h7, -⟩ := own_addr ownq.out ha
     exact ⟨by omega, h7⟩
   obtain ⟨A0, c0, e0, h6, -⟩ := Ints.of_own ownq.out
   injection e0 with e1 e2 e3
   subst e1
   have RS := RQ.out.snoc (c := c') h6 (by omega) h5
   have RS2 := (RS.kept HKB.out (fun b hb _ => hbB b _ hb (by decide))).kept hks (fun b _ hb2 => by simp; omega)
   have OA2 := own_keptT (own_keptT OAq.out HKB.out (fun y hy => hbB y _ (own_tag OAq.out hy) (by decide))) hks (fun y hy => by have := own_ge OA9.out hy; simp; omega)
   have OB2 := own_keptT HO8.out hks (fun y hy => by have := own_ge HO8.out hy; simp; omega)
   exact ⟨⟨n + 1, A9, c9, A8, c8, _, by omega, by go_num, ((hkVZ.next hkq (by simp)).next HKB.out (fun y hy => Or.inr (HXB.out y hy))).next hks (fun y hy => Or.inl hy), Lib.hid ((HKB.out.blk xgB BGq.out).set 1 _), Lib.hid OA2, Lib.hid OB2, Lib.hid RS2⟩, by simp [intOf]; omega⟩
end Go.Proofs.YtooejoajojanjaaGreatDoor
namespace Go.Df
open Go.RowKit
namespace If
open Classical in
theorem solFX_tab {p : Px} (ho : OkX p) {F : Nat} (hF : p.F.toNat = F) {T : Nat → Nat → Nat → Bool} (h : ∀ n a d, T n a d = true ↔ PEx p a n d) (x : Nat) : tabL F T x F = solFX p x := by
 unfold tabL solFX
 rw [hF]
 congr 1
 refine List.filter_congr fun y _ => ?_
 have e : anyT F T x y = decide (∃ a, PEx p a x y) := by
   rw [Bool.eq_iff_iff, decide_eq_true_iff]
   unfold anyT
   rw [List.any_eq_true]
   constructor
   · rintro ⟨a, _, ha⟩
     exact ⟨a, (h _ _ _).1 ha⟩
   · rintro ⟨a, ha⟩
     have h1 := (ha.rng ho).2.1
     exact ⟨a, List.mem_range.2 (by omega), (h _ _ _).2 ha⟩
 rw [e]
end If
end Go.Df
namespace Go.Proofs.YtooejoajojanjaaGreatDoor
open Go.RowKit Go.Df Go.Df.If
attribute [local go_sem ↓] Go.wp_at_zero Go.wp_at_succ
set_option maxRecDepth 100000 in
set_option maxHeartbeats 40000000 in
theorem ruse_ok {p : Px} {L : List Su} (A1 A2 A3 A4 AL : Option Addr) (n1 c1 n2 c2 n3 c3 n4 c4 nL cL mN F : Nat) (w : World) (hmi : MainIn p L) (hG : Gr w A1 n1 A2 n2 p.ns p.es) (hP : PbW p.toPb n1 F mN A1 A2 A3 A4 n2 n3 n4 w) (hS : SmW w AL nL L) :
   Calls Tryz.prog 24 #[.agg #[.slice A1 n1 c1, .slice A2 n2 c2, .int .i64 mN, .int .i64 (F : Nat), .slice A3 n3 c3, .slice A4 n4 c4], .slice AL nL cL] w (GetUse p w) := by
 have HG := Lib.hid hG
 have HP := Lib.hid hP
 have HS := Lib.hid hS
 have HMI := Lib.hid hmi
 have HOX := Lib.hid hmi.okX
 have hn4 := hP.h4
 have hN8 := hP.N8
 have hF8 := hP.F8
 have hF1 := hP.F1
 have hL2 : nL ≤ 256 := by have := (sum_ok.1 hmi.sum).2.1; have := hS.len; omega
 have HNL : Hid (p.ns.length = n1) := Lib.hid hP.nd.1
 have HFL : Hid (p.F.toNat = F) := Lib.hid hP.Fn
 have HSE : Hid (sumErr (F : Int) L = 0) := Lib.hid (by rw [← hP.hF]; exact hmi.sum)
 have HPE : Hid (pbErr ⟨p.ns, p.es, mN, F, p.fl, p.sd⟩ = 0) := Lib.hid (by
   have h9 : pbErr ⟨p.ns, p.es, p.mn, p.F, p.fl, p.sd⟩ = 0 := pb_ok (p := p.toPb) hP.ok.sup (by have := hP.ok.f1; have := hP.ok.f2; omega) hP.ok.len (fun x hx => by
     have h1 := hP.ok.fl x hx
     have h2 := fl_end (l := gf p.fl x) hP.ok.f1 hP.ok.f2 h1.1 h1.2.1
     rw [h2, if_neg]
     rintro (h3 | h3)
     · have := h1.2.2.1; omega
     · exact h3 h1.2.2.2) hP.ok.sd
   rw [← hP.hm, ← hP.hF]
   exact h9)
 have hm1 := main_in (sup_parts hP.ok.sup).2.2.1
 have hmN : mN < n1 := by have := hP.nd.1; have := hP.hm; omega
 have hN1 : 0 < n1 := by omega
 have HSL : Hid (∀ i, i < nL → (gS L i).x.length ≤ 8192 ∧ (gS L i).y.length ≤ 8192) := Lib.hid (fun i hi => by
   have h9 := (sum_ok.1 hmi.sum).2.2 i (by rw [hS.len]; exact hi)
   exact ⟨(ls_ok.1 h9.2.1).1, (ls_ok.1 h9.2.2).1⟩)
 have HIN : Hid (∀ x ∈ p.ini, x = (mN, 0)) := Lib.hid (fun x hx => by
   rw [hmi.ini, hP.hm, Int.toNat_natCast] at hx
   simpa using hx)
 have HPX0 : Hid (PEx p 0 mN 0) := Lib.hid (.ini (by rw [hmi.ini, hP.hm]; simp))
 clear hG hP hS hmi hm1
 go_enter Tryz.func24, Tryz.ntmps24
 go_upto_region 1 with fail
 refine wp_named (fun W => ∃ b0 b1, w.heap.size = b0 ∧ w.heap.size + 1 = b1 ∧ Blk W b0 [.slice A1 n1 c1, .slice A2 n2 c2, .int .i64 mN, .int .i64 (F : Nat), .slice A3 n3 c3, .slice A4 n4 c4] ∧ Blk W b1 [.slice none 0 0, .slice none 0 0] ∧ Below w.heap.size w W) ⟨_, _, rfl, rfl, ?_, ?_, ?_⟩ ?_
 · exact (Blk.new _ _ _ _ (by first | rfl | simp)).alloc _
 · exact kbn
 · go_grown
 rintro W ⟨b0, b1, e0, e1, B0, B1, hB⟩
 rw [e1, e0]
 have G0 : w.heap.size ≤ b0 := by omega
 have n01 : b0 ≠ b1 := by omega
 have G1 : w.heap.size ≤ b1 := by omega
 have n10 : b1 ≠ b0 := by omega
 clear e0 e1
 have ⟨L0, C0, F0⟩ := B0
 have ⟨L1, C1, F1⟩ := B1
 have HB1 := Lib.hid B1
 go_upto_region 2 with (go_at_call 28; refine (rifdsck_any A1 A2 A3 A4 n1 c1 n2 c2 n3 c3 n4 c4 mN F p.ns p.es p.fl p.sd _ (HG.out.nd.later hB) (HG.out.ed.later hB) (HP.out.fl.later hB) (HP.out.sd.later hB) (by omega) HG.out.wn HG.out.we).mono ?_; rw [HPE.out]; rintro e w1 ⟨rfl, hb1⟩)
 have hk1 : Kept [] W w1 := (Kept.refl _ _).call hb1
 have B01 := Lib.hid (hk1.blk (by simp) B0)
 have ⟨L01, C01, F01⟩ := B01.out
 have hB1 := hk1.below hB hB.size (by simp)
 clear C0 F0 C1 F1
 go_upto_region 5 with (go_at_call 12; refine (rsumck_any AL nL cL L F _ (HS.out.later hB1)).mono ?_; rw [HSE.out]; rintro e w2 ⟨rfl, hb2⟩)
 have hk12 : Kept [] w1 w2 := (Kept.refl _ _).call hb2
 have hkW2 : Kept [] W w2 := keptTrans hk1 hk12
 have B02 := Lib.hid (hk12.blk (by simp) B01.out)
 have ⟨L02, C02, F02⟩ := B02.out
 have hB2 := hk12.below hB1 hB1.size (by simp)
 clear C01 F01
 go_upto_region 8 with (go_at_call 54; refine (rempty_any A1 A2 A3 A4 n1 c1 n2 c2 n3 c3 n4 c4 mN F _ hN1 hN8 hF1 hF8).mono ?_; rintro e w3 ⟨X, bs, r, c, rfl, ht3, hX3, hr3, hb3⟩; have T3 := Lib.hid ht3; have HX3 := Lib.hid hX3; clear ht3 hX3)
 refine wp_named (fun V => ∃ g, w3.heap.size = g ∧ Blk V g [.int .i64 (F : Nat), .slice (some ⟨r, 0, none⟩) n1 c] ∧ Kept [] w3 V) ⟨_, rfl, Blk.new _ _ _ _ rfl, (Kept.refl _ _).alloc _⟩ ?_
 rintro V ⟨g, eg, Bg, hkV⟩
 have HGX : Hid (∀ x ∈ X, x ≠ g) := Lib.hid (fun x hx => by have := T3.out.lt x hx; omega)
 rw [eg]
 have hk2V : Kept [] w2 V := ((Kept.refl [] w2).call hb3).next hkV (by simp)
 have TV := Lib.hid (T3.out.kept0 hkV)
 have HBg := Lib.hid Bg
 have HB0V := Lib.hid (hk2V.blk (by simp) B02.out)
 have HXW : Hid (∀ x ∈ X, W.heap.size ≤ x) := Lib.hid (fun x hx => Nat.le_trans hkW2.size (HX3.out x hx))
 have hb0X : b0 ∉ X := fun h => by have h1 := HX3.out _ h; have h2 := B02.out.1; omega
 have hgX : g ∉ X := fun h => HGX.out _ h rfl
 have HKW2V : Hid (Kept [] w2 V) := Lib.hid hk2V
 have ⟨LGV, CGV, FGV⟩ := Bg
 have ⟨L0V, C0V, F0V⟩ := HB0V.out
 clear C02 F02 eg Bg
 go_upto_region 9 with (go_at_call 55; refine (rPut_any c 0 mN 0 _ TV.out hN8 hF8 hmN hF1 hF1).mono ?_; rintro e w4 ⟨rfl, hk4, ht4⟩)
 obtain ⟨T4, hT4⟩ : ∃ T4, (putT ((fun _ _ _ => false : Nat → Nat → Nat → Bool), false) mN 0 0).1 = T4 := ⟨_, rfl⟩
 rw [hT4] at ht4
 have T4M := Lib.hid ht4
 have HSN : Hid (SndTX p (T4, false)) := Lib.hid (by
   rw [← hT4]
   exact fun n a d h => ((SndTX.put (p := p) (s := ((fun _ _ _ => false : Nat → Nat → Nat → Bool), false)) (fun _ _ _ h => by cases h) HPX0.out)) n a d h)
 have HMM : Hid (∀ x ∈ p.ini, T4 x.1 x.2 x.2 = true) := Lib.hid (fun x hx => by
   rw [HIN.out x hx, ← hT4, putTx]
   simp)
 have hk24 : Kept [] w2 w4 := kept_fresh hk2V hk4 (fun y hy => HX3.out y hy)
 have HBG4 := Lib.hid (hk4.blk hgX HBg.out)
 have HB04 := Lib.hid (hk4.blk hb0X HB0V.out)
 have ⟨LG4, CG4, FG4⟩ := HBG4.out
 have ⟨L04, C04, F04⟩ := HB04.out
 have HE : Hid (EfW p AL nL true w2) := Lib.hid ⟨fun h => by (rw [HMI.out.kn] at h; cases h), fun L' hL => by
   rw [HMI.out.kn] at hL
   injection hL with hL
   subst hL
   exact ⟨rfl, hL2, HS.out.later hB2, HSL.out⟩⟩
 clear CGV FGV C0V F0V hT4 ht4
 go_upto_region 10 with (go_at_call 56; refine (rcloseX_any true c1 c2 c3 c4 c cL _ HOX.out (fun h => by (rw [HMI.out.kn] at h; cases h)) (fun _ => rfl) HE.out (HP.out.later hB2) hk24.toBelow HX3.out T4M.out hN1 HSN.out HMM.out).mono ?_; rintro e w5 ⟨rfl, hk5, T5, ht5, hpe5⟩; have T5M := Lib.hid ht5; have HPX := Lib.hid hpe5; clear ht5 hpe5)
 have hkV5 : Kept X w4 w5 := hk5
 have HBG5 := Lib.hid (hk5.blk hgX HBG4.out)
 have ⟨LG5, CG5, FG5⟩ := HBG5.out
 have hk25 : Kept [] w2 w5 := kept_fresh hk24 hk5 (fun y hy => HX3.out y hy)
 have B15 := Lib.hid ((keptTrans hkW2 hk25).blk (by simp) HB1.out)
 have ⟨L15, C15, F15⟩ := B15.out
 have hwW : Kept [] w W := (Kept.refl [] w).call hB
 have hkw5 : Kept [] w w5 := keptTrans hwW (keptTrans hkW2 hk25)
 clear CG4 FG4 C04 F04
 go_wp2_with (go_at_call 57; refine (rsolof_any c _ T5M.out hN8 hF1 hF8).mono ?_; rintro e w6 ⟨Ar, cr, Af, cf, rfl, hso, hb6⟩; have HSO := Lib.hid hso; have ⟨L16, C16, F16⟩ := B15.out.later hb6; clear hso)
 have hk6 : Kept [] w5 w6 := (Kept.refl _ _).call hb6
 have B16 := hk6.blk (by simp) B15.out
 refine retNamedS (fun Y => Blk Y b1 [.slice Ar n1 cr, .slice Af n1 cf] ∧ Kept [b1] w6 Y) ⟨(B16.set 0 _).set 1 _, ((Kept.refl [b1] w6).set b1 0 _ (.inl (by simp))).set b1 1 _ (.inl (by simp))⟩ ?_
 rintro Y ⟨BY, hkY⟩
 have ⟨LY, CY, FY⟩ := BY
 refine bodyPost_ret (by simp [results, Tryz.results24, go_sem, CY]; try rfl) rfl ?_
 have hbY : Below w.heap.size w Y := (kept_fresh (hkw5.call hb6) hkY (by simpa using G1)).toBelow
 obtain ⟨hq1, hq2⟩ := HSO.out Y [b1] hkY (by have := L15; simpa using this)
 have e1 : ((List.range n1).map fun x => T5 x 0 0) = (List.range n1).map (solRX p) := List.map_congr_left fun x _ => solRX_eq (HPX.out x 0 0)
 have e2 : ((List.range n1).map fun x => tabL F T5 x F) = (List.range n1).map (solFX p) := List.map_congr_left fun x _ => solFX_tab HOX.out HFL.out HPX.out x
 rw [e1] at hq1
 rw [e2] at hq2
 have hnl := HNL.out
 subst hnl
 exact ⟨Ar, _, Af, _, rfl, hq1, hq2, hbY⟩
set_option maxRecDepth 100000 in
set_option maxHeartbeats 4000000 in
theorem rsamef_eq (A B : Option Addr) (n a b : Nat) (l : List Int) (w : World) (hA : Ints w A n l) (hB : Ints w B n l) (hn : n ≤ 9223372036854775807) :
   Calls Tryz.prog 16 #[.slice A n a, .slice B n b] w fun e w' => e = .returned (.bool true) ∧ Below w.heap.size w w' := by
 have HA := Lib.hid hA
 have HB := Lib.hid hB
 clear hA hB
 go_enter Tryz.func16, Tryz.ntmps16
 go_wp2_with fail
 go_loopw [5] (fun s5 wr => ∃ i : Nat, i ≤ n ∧ s5 = .int .i64 i ∧ Kept [] w wr) (fun s5 _ => n - (intOf s5).toNat)
 case atStart => exact ⟨0, Nat.zero_le _, rfl, Kept.refl _ _⟩
 case round =>
 obtain ⟨i, hi, rfl, hkr⟩ := hrel
 by_cases hlt : i < n
 · obtain ⟨b1, o1, rfl, hl1, hc1⟩ := HA.out.2 (by omega)
   obtain ⟨b2, o2, rfl, hl2, hc2⟩ := HB.out.2 (by omega)
   have r1 := (hkr.cell b1 _ hl1 (by simp)).trans (hc1 i hlt)
   have r2 := (hkr.cell b2 _ hl2 (by simp)).trans (hc2 i hlt)
   obtain ⟨x, hx⟩ : ∃ x, gi l i = x := ⟨_, rfl⟩
   rw [hx] at r1 r2
   have l1 : b1 < wr.heap.size := Nat.lt_of_lt_of_le hl1 hkr.size
   have l2 : b2 < wr.heap.size := Nat.lt_of_lt_of_le hl2 hkr.size
   have hi9 : (i : Int) < (n : Int) := by omega
   clear hc1 hc2 hx
   go_upto_region 6 with fail
   go_quiet (fail)
   go_wp2_with fail
   exact ⟨⟨i + 1, by omega, by go_num, hkr.drewN _⟩, by simp [intOf]; omega⟩
 · obtain rfl : i = n := by omega
   go_wp2_with fail
   go_ret
   exact ⟨rfl, hkr.toBelow⟩
set_option maxRecDepth 100000 in
set_option maxHeartbeats 4000000 in
theorem rsame_eq (A1 A2 B1 B2 : Option Addr) (n m a1 a2 d1 d2 : Nat) (re : List Bool) (fs : List (List Int)) (w : World) (hA1 : Bls w A1 n re) (hB1 : Bls w B1 n re) (hA2 : IntsR w A2 m fs) (hB2 : IntsR w B2 m fs) (hn : n ≤ 1000000) (hm : m ≤ 1000000) :
   Calls Tryz.prog 25 #[.agg #[.slice A1 n a1, .slice A2 m a2], .agg #[.slice B1 n d1, .slice B2 m d2]] w fun e w' => e = .returned (.bool true) ∧ Below w.heap.size w w' := by
 have HA1 := Lib.hid hA1
 have HB1 := Lib.hid hB1
 have HA2 := Lib.hid hA2
 have HB2 := Lib.hid hB2
 clear hA1 hB1 hA2 hB2
 go_enter Tryz.func25, Tryz.ntmps25
 go_upto_region 1 with fail
 refine wp_named (fun W => ∃ b0 b1, w.heap.size = b0 ∧ w.heap.size + 1 = b1 ∧ Blk W b0 [.slice A1 n a1, .slice A2 m a2] ∧ Blk W b1 [.slice B1 n d1, .slice B2 m d2] ∧ Below w.heap.size w W) ⟨_, _, rfl, rfl, ?_, ?_, ?_⟩ ?_
 · exact (Blk.new _ _ _ _ (by first | rfl | simp)).alloc _
 · exact kbn
 · go_grown
 rintro W ⟨b0, b1, e0, e1, B0, B1, hB⟩
 rw [e1, e0]
 have G0 : w.heap.size ≤ b0 := by omega
 have n01 : b0 ≠ b1 := by omega
 have G1 : w.heap.size ≤ b1 := by omega
 have n10 : b1 ≠ b0 := by omega
 clear e0 e1
 have ⟨L0, C0, F0⟩ := B0
 have ⟨L1, C1, F1⟩ := B1
 go_wp2_with fail
 go_loopw [5] (fun s5 wr => ∃ i : Nat, i ≤ n ∧ s5 = .int .i64 i ∧ Kept [] W wr) (fun s5 _ => n - (intOf s5).toNat)
 case atStart => exact ⟨0, Nat.zero_le _, rfl, Kept.refl _ _⟩
 case round =>
 clear C0 F0 C1 F1
 obtain ⟨i, hi, rfl, hkr⟩ := hrel
 have ⟨L0r, C0r, F0r⟩ := hkr.blk (by simp) B0
 have ⟨L1r, C1r, F1r⟩ := hkr.blk (by simp) B1
 have hBr : Below w.heap.size w wr := hkr.below hB hB.size (by simp)
 by_cases hlt : i < n
 · obtain ⟨q1, o1, rfl, hl1, hc1⟩ := (HA1.out.later hBr).2 (by omega)
   obtain ⟨q2, o2, rfl, hl2, hc2⟩ := (HB1.out.later hBr).2 (by omega)
   have r1 := hc1 i hlt
   have r2 := hc2 i hlt
   obtain ⟨x, hx⟩ : ∃ x, gbl re i = x := ⟨_, rfl⟩
   rw [hx] at r1 r2
   have hi9 : (i : Int) < (n : Int) := by omega
   clear hc1 hc2 hx
   go_upto_region 6 with fail
   go_quiet (fail)
   cases x <;> (go_wp2_with fail; exact ⟨⟨i + 1, by omega, by go_num, hkr.drewN _⟩, by simp [intOf]; omega⟩)
 · obtain rfl : i = n := by omega
   go_wp2_with fail
   go_loopw [6] (fun s6 wz => ∃ q : Nat, q ≤ m ∧ s6 = .int .i64 q ∧ Kept [] W wz) (fun s6 _ => m - (intOf s6).toNat)
   case atStart => exact ⟨0, Nat.zero_le _, rfl, hkr⟩
   case round =>
   rename World => wz
   clear C0r F0r C1r F1r
   obtain ⟨q, hq, rfl, hkz⟩ := hrel
   have ⟨L0z, C0z, F0z⟩ := hkz.blk (by simp) B0
   have ⟨L1z, C1z, F1z⟩ := hkz.blk (by simp) B1
   have hBz : Below w.heap.size w wz := hkz.below hB hB.size (by simp)
   by_cases hltq : q < m
   · obtain ⟨q1, o1, rfl, hl1, hc1⟩ := (HA2.out.later hBz).2 (by omega)
     obtain ⟨q2, o2, rfl, hl2, hc2⟩ := (HB2.out.later hBz).2 (by omega)
     obtain ⟨Ai, ni, ci, r1, i1, n1⟩ := hc1 q hltq
     obtain ⟨Bi, mi, di, r2, i2, n2⟩ := hc2 q hltq
     obtain rfl : ni = mi := by have := i1.1; have := i2.1; omega
     have I1 := Lib.hid i1
     have I2 := Lib.hid i2
     have hq9 : (q : Int) < (m : Int) := by omega
     clear hc1 hc2 i1 i2
     go_upto_region 11 with fail
     refine wp_region_E 11 (fun w' => SX0 wz w') (by kernel_rfl) (by (exact kp0)) (fun hHeld => ?_)
     refine WE_tk 0 ?_
     refine WE_tk 1 ?_
     refine WE_tk 2 ?_
     refine WE_tk 3 ?_
     refine WE_tk 4 ?_
     refine WE_tk 5 ?_
     refine WE_tk 6 ?_
     refine WE_tk 7 ?_
     refine WE_tk 8 ?_
     refine WE_tk 9 ?_
     refine WE_step 10 rfl (by kernel_rfl) (fun K hK => ?_)
     go_simp
     (go_at_call 16; refine (rsamef_eq Ai Bi ni ci di _ _ (I1.out.later (Kept.refl [] _).drew.toBelow) (I2.out.later (Kept.refl [] _).drew.toBelow) n1).mono ?_; rintro e w5 ⟨rfl, hb5⟩; have HK5 := Lib.hid (((Kept.refl [] wz).drew).call hb5))
     (try go_wp2_with fail)
     refine hK.out _ _ ?_ (fun hHeld => ?_)
     · (exact kp0)
     clear hK K
     refine WE_put ?_
     refine WE_last rfl (by kernel_rfl) (fun K hK => ?_)
     go_simp
     refine hK.out _ _ ?_
     clear hK K
     go_wp2_with fail
     exact ⟨⟨q + 1, by omega, by go_num, hkz.next HK5.out (by simp)⟩, by simp [intOf]; omega⟩
   · obtain rfl : q = m := by omega
     go_wp2_with fail
     go_ret
     exact ⟨rfl, hBz⟩
set_option maxRecDepth 100000 in
set_option maxHeartbeats 4000000 in
theorem small35p_any (A1 A2 A3 A4 : Option Addr) (n1 c1 n2 c2 n3 c3 n4 c4 : Nat) (mn F : Int) (ls : List (List Pr)) (w : World) (hF : Flw w A3 n3 ls) :
   Calls Tryz.prog 22 #[.agg #[.slice A1 n1 c1, .slice A2 n2 c2, .int .i64 mn, .int .i64 F, .slice A3 n3 c3, .slice A4 n4 c4]] w fun e w' => (∃ b, e = .returned (.bool b) ∧ (b = true → n1 ≤ 40 ∧ n2 ≤ 80 ∧ F ≤ 8 ∧ n3 ≤ 80 ∧ n4 ≤ 20)) ∧ Below w.heap.size w w' := by
 have HF := Lib.hid hF
 clear hF
 by_cases t1 : 40 < n1
 · have d1 : decide ((40 : Int) < n1) = true := by simp; omega
   clear t1
   go_enter Tryz.func22, Tryz.ntmps22
   go_upto_region 1 with fail
   refine wp_named (fun W => ∃ b0, w.heap.size = b0 ∧ Blk W b0 [.slice A1 n1 c1, .slice A2 n2 c2, .int .i64 mn, .int .i64 F, .slice A3 n3 c3, .slice A4 n4 c4] ∧ Below w.heap.size w W) ⟨_, rfl, ?_, ?_⟩ ?_
   · exact kbn
   · go_grown
   rintro W ⟨b0, e0, B0, hB⟩
   rw [e0]
   have G0 : w.heap.size ≤ b0 := by omega
   clear e0
   have ⟨L0, C0, F0⟩ := B0
   go_wp2_with fail
   go_ret
   exact ⟨⟨false, rfl, fun h => by cases h⟩, hB⟩
 have d1 : decide ((40 : Int) < n1) = false := by simp; omega
 by_cases t2 : 80 < n2
 · have d2 : decide ((80 : Int) < n2) = true := by simp; omega
   clear t1 t2
   go_enter Tryz.func22, Tryz.ntmps22
   go_upto_region 1 with fail
   refine wp_named (fun W => ∃ b0, w.heap.size = b0 ∧ Blk W b0 [.slice A1 n1 c1, .slice A2 n2 c2, .int .i64 mn, .int .i64 F, .slice A3 n3 c3, .slice A4 n4 c4] ∧ Below w.heap.size w W) ⟨_, rfl, ?_, ?_⟩ ?_
   · exact kbn
   · go_grown
   rintro W ⟨b0, e0, B0, hB⟩
   rw [e0]
   have G0 : w.heap.size ≤ b0 := by omega
   clear e0
   have ⟨L0, C0, F0⟩ := B0
   go_wp2_with fail
   go_ret
   exact ⟨⟨false, rfl, fun h => by cases h⟩, hB⟩
 have d2 : decide ((80 : Int) < n2) = false := by simp; omega
 by_cases t3 : 8 < F
 · have d3 : decide ((8 : Int) < F) = true := by simpa using t3
   clear t1 t2 t3
   go_enter Tryz.func22, Tryz.ntmps22
   go_upto_region 1 with fail
   refine wp_named (fun W => ∃ b0, w.heap.size = b0 ∧ Blk W b0 [.slice A1 n1 c1, .slice A2 n2 c2, .int .i64 mn, .int .i64 F, .slice A3 n3 c3, .slice A4 n4 c4] ∧ Below w.heap.size w W) ⟨_, rfl, ?_, ?_⟩ ?_
   · exact kbn
   · go_grown
   rintro W ⟨b0, e0, B0, hB⟩
   rw [e0]
   have G0 : w.heap.size ≤ b0 := by omega
   clear e0
   have ⟨L0, C0, F0⟩ := B0
   go_wp2_with fail
   go_ret
   exact ⟨⟨false, rfl, fun h => by cases h⟩, hB⟩
 have d3 : decide ((8 : Int) < F) = false := by simpa using t3
 by_cases t4 : 80 < n3
 · have d4 : decide ((80 : Int) < n3) = true := by simp; omega
   clear t1 t2 t3 t4
   go_enter Tryz.func22, Tryz.ntmps22
   go_upto_region 1 with fail
   refine wp_named (fun W => ∃ b0, w.heap.size = b0 ∧ Blk W b0 [.slice A1 n1 c1, .slice A2 n2 c2, .int .i64 mn, .int .i64 F, .slice A3 n3 c3, .slice A4 n4 c4] ∧ Below w.heap.size w W) ⟨_, rfl, ?_, ?_⟩ ?_
   · exact kbn
   · go_grown
   rintro W ⟨b0, e0, B0, hB⟩
   rw [e0]
   have G0 : w.heap.size ≤ b0 := by omega
   clear e0
   have ⟨L0, C0, F0⟩ := B0
   go_wp2_with fail
   go_ret
   exact ⟨⟨false, rfl, fun h => by cases h⟩, hB⟩
 have d4 : decide ((80 : Int) < n3) = false := by simp; omega
 by_cases t5 : 20 < n4
 · have d5 : decide ((20 : Int) < n4) = true := by simp; omega
   clear t1 t2 t3 t4 t5
   go_enter Tryz.func22, Tryz.ntmps22
   go_upto_region 1 with fail
   refine wp_named (fun W => ∃ b0, w.heap.size = b0 ∧ Blk W b0 [.slice A1 n1 c1, .slice A2 n2 c2, .int .i64 mn, .int .i64 F, .slice A3 n3 c3, .slice A4 n4 c4] ∧ Below w.heap.size w W) ⟨_, rfl, ?_, ?_⟩ ?_
   · exact kbn
   · go_grown
   rintro W ⟨b0, e0, B0, hB⟩
   rw [e0]
   have G0 : w.heap.size ≤ b0 := by omega
   clear e0
   have ⟨L0, C0, F0⟩ := B0
   go_wp2_with fail
   go_ret
   exact ⟨⟨false, rfl, fun h => by cases h⟩, hB⟩
 have d5 : decide ((20 : Int) < n4) = false := by simp; omega
 have HOK : Hid (n1 ≤ 40 ∧ n2 ≤ 80 ∧ F ≤ 8 ∧ n3 ≤ 80 ∧ n4 ≤ 20) := by show _ ∧ _; omega
 have hn3 : n3 ≤ 80 := by omega
 clear t1 t2 t3 t4 t5
 go_enter Tryz.func22, Tryz.ntmps22
 go_upto_region 1 with fail
 refine wp_named (fun W => ∃ b0, w.heap.size = b0 ∧ Blk W b0 [.slice A1 n1 c1, .slice A2 n2 c2, .int .i64 mn, .int .i64 F, .slice A3 n3 c3, .slice A4 n4 c4] ∧ Below w.heap.size w W) ⟨_, rfl, ?_, ?_⟩ ?_
 · exact kbn
 · go_grown
 rintro W ⟨b0, e0, B0, hB⟩
 rw [e0]
 have G0 : w.heap.size ≤ b0 := by omega
 clear e0
 have ⟨L0, C0, F0⟩ := B0
 go_wp2_with fail
 go_loopw [3] (fun s3 wr => ∃ i : Nat, i ≤ n3 ∧ s3 = .int .i64 i ∧ Kept [] W wr) (fun s3 _ => n3 - (intOf s3).toNat)
 case atStart => exact ⟨0, Nat.zero_le _, rfl, Kept.refl _ _⟩
 case round =>
 clear C0 F0
 obtain ⟨i, hi, rfl, hkr⟩ := hrel
 have ⟨L0r, C0r, F0r⟩ := hkr.blk (by simp) B0
 have hBr : Below w.heap.size w wr := hkr.below hB hB.size (by simp)
 by_cases hlt : i < n3
 · obtain ⟨q1, o1, rfl, hl1, hc1⟩ := (HF.out.later hBr).2 (by omega)
   obtain ⟨Ai, ni, ci, r1, -, -⟩ := hc1 i hlt
   have hi9 : (i : Int) < (n3 : Int) := by omega
   clear hc1
   by_cases t6 : 40 < ni
   · have d6 : decide ((40 : Int) < ni) = true := by simp; omega
     clear t6
     go_wp2_with fail
     go_ret
     exact ⟨⟨false, rfl, fun h => by cases h⟩, hBr⟩
   · have d6 : decide ((40 : Int) < ni) = false := by simp; omega
     clear t6
     go_wp2_with fail
     exact ⟨⟨i + 1, by omega, by go_num, hkr⟩, by simp [intOf]; omega⟩
 · obtain rfl : i = n3 := by omega
   go_wp2_with fail
   go_ret
   exact ⟨⟨true, rfl, fun _ => HOK.out⟩, hBr⟩
end Go.Proofs.YtooejoajojanjaaGreatDoor
namespace Go.Proofs.YtooejoajojanjaaGreatDoor
open Go.RowKit Go.Maps Go.Sort Go.Shelf
def layKyr : Go.Shelf.Ren := ⟨fun | 7 => 103 | 10 => 142 | n => n, fun | 23 => 157 | 26 => 3 | 3 => 166 | 28 => 175 | 0 => 0 | 27 => 174 | 33 => 183 | 4 => 4 | n => n, fun | n => n⟩
def laySdr : Go.Shelf.Ren := ⟨fun | 6 => 102 | 8 => 141 | 9 => 69 | 11 => 171 | 13 => 112 | 12 => 111 | 23 => 156 | 24 => 157 | 14 => 147 | 15 => 148 | 16 => 149 | 17 => 150 | 18 => 151 | 19 => 152 | 20 => 153 | 21 => 154 | 22 => 155 | 25 => 172 | 26 => 173 | 27 => 174 | 28 => 175 | 29 => 176 | 30 => 110 | 31 => 191 | n => n, fun | 26 => 3 | 28 => 175 | 24 => 31 | 0 => 0 | 3 => 3 | 37 => 186 | 48 => 242 | 50 => 225 | 4 => 4 | 40 => 236 | 39 => 235 | 45 => 190 | 5 => 5 | 9 => 9 | 51 => 256 | 55 => 260 | 57 => 269 | 58 => 177 | 33 => 183 | n => n, fun | n => n⟩
def laySttr : Go.Shelf.Ren := ⟨fun | 5 => 69 | 8 => 112 | 7 => 111 | 19 => 156 | 20 => 157 | 10 => 147 | 11 => 148 | 12 => 149 | 13 => 150 | 14 => 151 | 15 => 152 | 16 => 153 | 17 => 154 | 18 => 155 | 30 => 172 | 31 => 173 | 32 => 174 | 33 => 175 | 34 => 176 | 35 => 110 | 40 => 191 | n => n, fun | 23 => 31 | 25 => 3 | 3 => 3 | 32 => 186 | 22 => 31 | 0 => 0 | 44 => 242 | 46 => 225 | 4 => 4 | 36 => 236 | 35 => 235 | 41 => 190 | 5 => 5 | 9 => 9 | 53 => 256 | 57 => 260 | 63 => 269 | 64 => 177 | n => n, fun | n => n⟩
end Go.Proofs.YtooejoajojanjaaGreatDoor
namespace Go.Df
open Go.RowKit
namespace If
end If
end Go.Df
namespace Go.Proofs.YtooejoajojanjaaGreatDoor
open Go.RowKit Go.Df Go.Df.If Go.Shelf Go.Maps Go.Sort
attribute [local go_sem ↓] Go.wp_at_zero Go.wp_at_succ
def GetKeys (w : World) (f : Value → Value) (e : Ending) (w' : World) : Prop := ∃ A k cc ks, e = .returned (.slice A k cc) ∧ Ints w' A k ks ∧ k ≤ 9223372036854775807 ∧ ks.Pairwise (· < ·) ∧ (∀ x ∈ ks, (Lit.int .i64 x).wf = true) ∧ (∀ x, (Lit.int .i64 x).wf = true → f (.int .i64 x) ≠ .slice none 0 0 → x ∈ ks) ∧ Below w.heap.size w w'
end Go.Proofs.YtooejoajojanjaaGreatDoor
namespace Go.Proofs.YtooejoajojanjaaGreatDoor
open Go.RowKit Go.Df Go.Df.If
attribute [local go_sem ↓] Go.wp_at_zero Go.wp_at_succ
end Go.Proofs.YtooejoajojanjaaGreatDoor
