/- Texts: Vt Zr Vu Vg Ko Nb Kr Kt Ng Npz Kf. -/
import Derived.Test.YtooejoajojanjaaGreatDoorXSg20
import Derived.Test.YtooejoajojanjaaGreatDoorXSg22
import Derived.Test.YtooejoajojanjaaGreatDoorXSg12
import Derived.Test.YtooejoajojanjaaGreatDoorXSg11
import Derived.Test.YtooejoajojanjaaGreatDoorXSg13
import Derived.Test.YtooejoajojanjaaGreatDoorXSg07
import Derived.Test.YtooejoajojanjaaGreatDoorXSg05
import Derived.Test.YtooejoajojanjaaGreatDoorXSg19
import Derived.Test.YtooejoajojanjaaGreatDoorXSg03
namespace Go.Proofs.YtooejoajojanjaaGreatDoor
open Go.RowKit Go.Df Go.Df.If
attribute [local go_sem ↓] Go.wp_at_zero Go.wp_at_succ
variable {p : Px} {N F mN : Nat} {A1 A2 A3 A4 : Option Addr} {n2 n3 n4 : Nat} {X : List Nat} {bs : Nat → Nat} {r : Nat} {w0 w : World} {T : Nat → Nat → Nat → Bool} {AL : Option Addr} {nL : Nat} {u : Bool}
def truthX : Value → Nat | .bool true => 1 | _ => 0
set_option maxRecDepth 100000 in
set_option maxHeartbeats 8000000 in
theorem rcloseX_any (en : Bool) (c1 c2 c3 c4 c cL : Nat) (w : World) (hox : OkX p) (hen0 : p.kn = none → en = false) (hen1 : p.kn ≠ none → en = true) (hE : EfW p AL nL u w0) (hP : PbW p.toPb N F mN A1 A2 A3 A4 n2 n3 n4 w0) (hb0 : Below w0.heap.size w0 w) (hX : ∀ x ∈ X, w0.heap.size ≤ x) (hT : TabM N F X bs r w T) (hN1 : 0 < N) (hsnd : SndTX p (T, false)) (hmain : ∀ x ∈ p.ini, T x.1 x.2 x.2 = true) :
   Calls Tryz.prog 56 #[.agg #[.slice A1 N c1, .slice A2 n2 c2, .int .i64 mN, .int .i64 (F : Nat), .slice A3 n3 c3, .slice A4 n4 c4, .int .i64 (F : Nat), .slice (some ⟨r, 0, none⟩) N c, .slice AL nL cL, .bool u], .bool en] w fun e w' => e = .returned (.tuple #[]) ∧ Kept X w w' ∧ ∃ T', TabM N F X bs r w' T' ∧ ∀ n a d, T' n a d = true ↔ PEx p a n d := by
 have HP := Lib.hid hP
 have HOX := Lib.hid hox
 have HE := Lib.hid hE
 have HX := Lib.hid hX
 have hN8 := hP.N8
 have hF8 := hP.F8
 have hE8 : n2 ≤ 32768 := by have := (sup_parts hP.ok.sup).2.1; have := hP.ed.1; omega
 have HES := Lib.hid hP.ed.1
 have HSS := Lib.hid hP.sd.1
 have HXlt := Lib.hid hT.lt
 have HT := Lib.hid hT
 have HSN := Lib.hid hsnd
 have HMN := Lib.hid hmain
 have HFN := Lib.hid hP.Fn
 have hszw := hb0.size
 clear hP hox hE hX hT hsnd hmain
 go_enter Tryz.func56, Tryz.ntmps56
 go_upto_region 1 with fail
 refine wp_named (fun W => ∃ b0, w.heap.size = b0 ∧ Blk W b0 [.slice A1 N c1, .slice A2 n2 c2, .int .i64 mN, .int .i64 (F : Nat), .slice A3 n3 c3, .slice A4 n4 c4, .int .i64 (F : Nat), .slice (some ⟨r, 0, none⟩) N c, .slice AL nL cL, .bool u] ∧ Below w.heap.size w W) ⟨_, rfl, ?_, ?_⟩ ?_
 · exact kbn
 · go_grown
 rintro W ⟨b0, e0, B0, hB⟩
 rw [e0]
 have G0 : w.heap.size ≤ b0 := by omega
 clear e0
 have ⟨L0, C0, F0⟩ := B0
 have hX0 : b0 ∉ X := fun h => by have := HXlt.out _ h; omega
 have HXW : Hid (∀ y, W.heap.size ≤ y → y ∉ X) := fun y hy h => by have := HXlt.out _ h; have := hB.size; omega
 have HBW : Hid (Below w0.heap.size w0 W) := Lib.hid (hb0.trans (hB.mono hszw))
 go_upto_region 3 with fail
 refine wp_named (fun V => ∃ g, W.heap.size = g ∧ Blk V g [.slice A1 N c1, .slice A2 n2 c2, .int .i64 mN, .int .i64 (F : Nat), .slice A3 n3 c3, .slice A4 n4 c4] ∧ Kept [] W V) ⟨_, rfl, Blk.new _ _ _ _ rfl, (Kept.refl _ _).alloc _⟩ ?_
 rintro V ⟨bp, ep, Bp, hkV⟩
 rw [ep]
 have hXp : bp ∉ X := HXW.out bp (by omega)
 have HBV : Hid (Below w0.heap.size w0 V) := Lib.hid (HBW.out.trans (hkV.toBelow.mono HBW.out.size))
 have HwV : Hid (Kept [] w V) := Lib.hid (((Kept.refl [] w).call hB).next hkV (by simp))
 have TV := Lib.hid (HT.out.kept0 HwV.out)
 have B0V := hkV.blk (by simp) B0
 have BpV := Bp
 clear C0 F0 ep Bp
 obtain ⟨PM, hPM⟩ : ∃ PM : Nat → World → Prop, PM = fun u wr => ∃ T, TabM N F X bs r wr T ∧ SndTX p (T, false) ∧ (∀ x ∈ p.ini, T x.1 x.2 x.2 = true) ∧ unhT p.toPb T = u := ⟨_, rfl⟩
 have HPM := Lib.hid hPM
 have hPM0 : Hid (∃ u, PM u V) := Lib.hid (by rw [hPM]; exact ⟨_, T, TV.out, HSN.out, HMN.out, rfl⟩)
 clear hPM
 go_wp2_with fail
 go_loopw [5] (fun s5 wr => ∃ (m : Bool), s5 = .bool m ∧ Kept X V wr ∧ Hid (m = true → ∃ u, PM u wr) ∧ Hid (m = false → ∃ T', TabM N F X bs r wr T' ∧ ∀ n a d, T' n a d = true ↔ PEx p a n d)) (fun s5 wr => 2 * leastM PM wr + truthX s5)
 case atStart => exact ⟨true, rfl, Kept.refl _ _, Lib.hid (fun _ => hPM0.out), Lib.hid (fun h => by cases h)⟩
 case round =>
 obtain ⟨m, rfl, hkr, hex, hdone⟩ := hrel
 have B0r := hkr.blk hX0 B0V
 have Bpr := hkr.blk hXp BpV
 have ⟨L0r, C0r, F0r⟩ := B0r
 have ⟨Lpr, Cpr, Fpr⟩ := Bpr
 have hBr : Below w0.heap.size w0 wr := Kept.below HBV.out HBV.out.size HX.out hkr
 cases m with
 | false =>
   have HD := Lib.hid (hdone.out rfl)
   clear hdone hex
   go_wp2_with fail
   go_end0
   exact ⟨rfl, (keptWide HwV.out (by simp)).next hkr (fun y hy => .inl hy), HD.out⟩
 | true =>
 have hsp := leastM_spec (hex.out rfl)
 obtain ⟨lv, hlv⟩ : ∃ lv, leastM PM wr = lv := ⟨_, rfl⟩
 rw [hlv] at hsp
 have HLV := Lib.hid hlv
 rw [show PM = _ from HPM.out] at hsp
 obtain ⟨T0, hT0, hs0, hm0, hu0⟩ := hsp
 have TR := Lib.hid hT0
 have HS0 := Lib.hid hs0
 have HM0 := Lib.hid hm0
 have HU0 := Lib.hid hu0
 obtain ⟨T1, m1, h1⟩ : ∃ T1 m1, seededT p.toPb n4 (T0, false) = (T1, m1) := ⟨_, _, rfl⟩
 have H1 := Lib.hid h1
 clear hlv hT0 hs0 hm0 hu0 h1 hex hdone
 go_upto_region 5 with (go_at_call 98; refine (rseeded30_any c1 c2 c3 c4 c _ HP.out hBr HX.out TR.out).mono ?_; rw [H1.out]; rintro e w1 ⟨rfl, hk1, ht1⟩)
 have hkV1 : Kept X V w1 := hkr.next hk1 (fun y hy => .inl hy)
 have B01 := hk1.blk hX0 B0r
 have Bp1 := hk1.blk hXp Bpr
 have ⟨L01, C01, F01⟩ := B01
 have ⟨Lp1, Cp1, Fp1⟩ := Bp1
 have HB1 : Hid (Below w0.heap.size w0 w1) := Lib.hid (Kept.below HBV.out HBV.out.size HX.out hkV1)
 have TW1 := Lib.hid ht1
 clear C0r F0r Cpr Fpr ht1
 go_wp2_with fail
 go_loopw [5, 6] (fun s5 s6 wq => ∃ (k : Nat) (mk : Bool) (Tk : Nat → Nat → Nat → Bool), k ≤ n2 ∧ s6 = .int .i64 k ∧ s5 = .bool mk ∧ Kept X w1 wq ∧ Hid (TabM N F X bs r wq Tk) ∧ Hid (roundEX p k (T1, m1) = (Tk, mk))) (fun _ s6 _ => n2 - (intOf s6).toNat)
 case atStart => exact ⟨0, m1, T1, Nat.zero_le _, rfl, rfl, Kept.refl _ _, TW1, Lib.hid rfl⟩
 case round =>
 rename World => wq
 clear C01 F01 Cp1 Fp1
 obtain ⟨k, mk, Tk, hk, rfl, rfl, hkq, TQ, HRk⟩ := hrel
 have ⟨L0q, C0q, F0q⟩ := hkq.blk hX0 B01
 have ⟨Lpq, Cpq, Fpq⟩ := hkq.blk hXp Bp1
 have hBq : Below w0.heap.size w0 wq := Kept.below HB1.out HB1.out.size HX.out hkq
 by_cases hlt : k < n2
 case neg =>
   obtain rfl : k = n2 := by omega
   have HRT : Hid (roundX p T0 = (Tk, mk)) := Lib.hid (by unfold roundX; rw [HES.out, HSS.out, H1.out, HRk.out])
   have hkVq : Kept X V wq := hkV1.next hkq (fun y hy => .inl hy)
   have hsk : SndTX p (Tk, false) := fun n a d h => by
     have := roundX_snd HOX.out HS0.out n a d
     rw [HRT.out] at this
     exact this h
   have hrl := roundX_rl HOX.out T0
   rw [HRT.out] at hrl
   have hmk' : ∀ x ∈ p.ini, Tk x.1 x.2 x.2 = true := fun x hx => hrl.le _ _ _ (HM0.out x hx)
   have hPMk : PM (unhT p.toPb Tk) wq := by rw [show PM = _ from HPM.out]; exact ⟨Tk, TQ.out, hsk, hmk', rfl⟩
   have hle := leastM_le hPMk
   have HLE := Lib.hid hle
   have HPK := Lib.hid hPMk
   have HRL := Lib.hid hrl
   have HSK := Lib.hid hsk
   clear hle hPMk hsk hrl hmk'
   cases mk with
   | true =>
     have hlt' : unhT p.toPb Tk < unhT p.toPb T0 := by have h9 := roundX_unh HOX.out (T := T0) (by rw [HRT.out]); rw [HRT.out] at h9; exact h9
     have HLT := Lib.hid hlt'
     clear hlt'
     go_wp2_with fail
     refine ⟨⟨true, rfl, hkVq, Lib.hid (fun _ => ⟨_, HPK.out⟩), Lib.hid (fun h => by cases h)⟩, ?_⟩
     have h1 := HLE.out; have h2 := HLT.out; have h3 := HU0.out; have h4 := HLV.out
     simp only [truthX]
     omega
   | false =>
     have hTk : Tk = T0 := by have h9 := HRL.out.fl rfl; injection h9
     have hclo : CloX p fun a n d => T0 n a d = true := roundX_clo HOX.out HM0.out HS0.out (by rw [HRT.out])
     have HFIN : Hid (∀ n a d, Tk n a d = true ↔ PEx p a n d) := Lib.hid (fun n a d => ⟨HSK.out n a d, fun h => by rw [hTk]; exact hclo.all h⟩)
     have HUK : Hid (unhT p.toPb Tk = unhT p.toPb T0) := Lib.hid (by rw [hTk])
     clear hTk hclo
     go_wp2_with fail
     refine ⟨⟨false, rfl, hkVq, Lib.hid (fun h => by cases h), Lib.hid (fun _ => ⟨Tk, TQ.out, HFIN.out⟩)⟩, ?_⟩
     have h1 := HLE.out; have h2 := HUK.out; have h3 := HU0.out; have h4 := HLV.out
     simp only [truthX]
     omega
 have hk9 : (k : Int) < (n2 : Int) := by omega
 obtain ⟨be, oe, rfl, hle, hce⟩ := HP.out.ed.2 (by omega)
 obtain ⟨ea, eb, ek, ec, en, hea, heb, hek1, hek5⟩ := HP.out.edge hlt
 have e3 := (hBq.cell (p := ⟨be, _, none⟩) hle).trans (hce k hlt).2.2.1
 rw [en] at e3
 have hleq : be < wq.heap.size := Nat.lt_of_lt_of_le hle hBq.size
 have HEN := Lib.hid en
 have HRK : Hid (roundEX p (k + 1) (T1, m1) = edgeX p k (Tk, mk)) := by
   show _ = _
   have h9 := HRk.out
   unfold roundEX at h9 ⊢
   rw [If.up, h9]
 have HEE : Hid (∀ s, edgeX p k s = if ek = 1 ∨ ek = 5 then passedT p.toPb k F s else if ek = 2 then (if p.kn = none then s else enteredT p.toPb k F s) else returnedX p k n2 s) := Lib.hid (fun s => by
   unfold edgeX
   rw [HEN.out, HFN.out, HES.out])
 clear hce en
 by_cases k1 : ek = 1 ∨ ek = 5
 · have HE9 : Hid (∀ s, edgeX p k s = passedT p.toPb k F s) := Lib.hid (fun s => by rw [HEE.out, if_pos k1])
   clear HEE hek1 hek5
   rcases k1 with rfl | rfl
   all_goals
     obtain ⟨T9, b9, h9⟩ : ∃ T9 b9, passedT p.toPb k F (Tk, false) = (T9, b9) := ⟨_, _, rfl⟩
     have HE0 : Hid (roundEX p (k + 1) (T1, m1) = (T9, mk || b9)) := Lib.hid (by rw [HRK.out, HE9.out, passed_lin p.toPb k F Tk mk, h9])
     have H9 := Lib.hid h9
     clear h9
     cases mk <;> cases b9
     · go_wp2_with (go_at_call 99; refine (rpassed30_any k c1 c2 c3 c4 c _ HP.out hBq HX.out TQ.out hlt).mono ?_; rw [H9.out]; rintro e w4 ⟨rfl, hk4, ht4⟩)
       exact ⟨⟨k + 1, false, T9, by omega, by go_num, rfl, hkq.next hk4 (fun y hy => .inl hy), Lib.hid ht4, HE0⟩, by simp [intOf]; omega⟩
     · go_wp2_with (go_at_call 99; refine (rpassed30_any k c1 c2 c3 c4 c _ HP.out hBq HX.out TQ.out hlt).mono ?_; rw [H9.out]; rintro e w4 ⟨rfl, hk4, ht4⟩)
       exact ⟨⟨k + 1, true, T9, by omega, by go_num, rfl, hkq.next hk4 (fun y hy => .inl hy), Lib.hid ht4, HE0⟩, by simp [intOf]; omega⟩
     · go_wp2_with (go_at_call 99; refine (rpassed30_any k c1 c2 c3 c4 c _ HP.out hBq HX.out TQ.out hlt).mono ?_; rw [H9.out]; rintro e w4 ⟨rfl, hk4, ht4⟩)
       exact ⟨⟨k + 1, true, T9, by omega, by go_num, rfl, hkq.next hk4 (fun y hy => .inl hy), Lib.hid ht4, HE0⟩, by simp [intOf]; omega⟩
     · go_wp2_with (go_at_call 99; refine (rpassed30_any k c1 c2 c3 c4 c _ HP.out hBq HX.out TQ.out hlt).mono ?_; rw [H9.out]; rintro e w4 ⟨rfl, hk4, ht4⟩)
       exact ⟨⟨k + 1, true, T9, by omega, by go_num, rfl, hkq.next hk4 (fun y hy => .inl hy), Lib.hid ht4, HE0⟩, by simp [intOf]; omega⟩
 by_cases k2 : ek = 2
 · subst k2
   by_cases hkn : p.kn = none
   · have HE9 : Hid (∀ s, edgeX p k s = s) := Lib.hid (fun s => by rw [HEE.out, if_neg k1, if_pos rfl, if_pos hkn])
     obtain rfl := hen0 hkn
     have HE0 : Hid (roundEX p (k + 1) (T1, m1) = (Tk, mk)) := Lib.hid (by rw [HRK.out, HE9.out])
     clear HEE hek1 hek5 k1 hkn
     cases mk
     · go_wp2_with fail
       exact ⟨⟨k + 1, false, Tk, by omega, by go_num, rfl, hkq, TQ, HE0⟩, by simp [intOf]; omega⟩
     · go_wp2_with fail
       exact ⟨⟨k + 1, true, Tk, by omega, by go_num, rfl, hkq, TQ, HE0⟩, by simp [intOf]; omega⟩
   obtain rfl := hen1 hkn
   have HE9 : Hid (∀ s, edgeX p k s = enteredT p.toPb k F s) := Lib.hid (fun s => by rw [HEE.out, if_neg k1, if_pos rfl, if_neg hkn])
   clear HEE hek1 hek5 k1 hkn
   obtain ⟨T9, b9, h9⟩ : ∃ T9 b9, enteredT p.toPb k F (Tk, false) = (T9, b9) := ⟨_, _, rfl⟩
   have HE0 : Hid (roundEX p (k + 1) (T1, m1) = (T9, mk || b9)) := Lib.hid (by rw [HRK.out, HE9.out, entered_lin p.toPb k F Tk mk, h9])
   have H9 := Lib.hid h9
   clear h9
   cases mk <;> cases b9
   · go_wp2_with (go_at_call 100; refine (rentered30_any k c1 c2 c3 c4 c _ HP.out hBq HX.out TQ.out hlt).mono ?_; rw [H9.out]; rintro e w4 ⟨rfl, hk4, ht4⟩)
     exact ⟨⟨k + 1, false, T9, by omega, by go_num, rfl, hkq.next hk4 (fun y hy => .inl hy), Lib.hid ht4, HE0⟩, by simp [intOf]; omega⟩
   · go_wp2_with (go_at_call 100; refine (rentered30_any k c1 c2 c3 c4 c _ HP.out hBq HX.out TQ.out hlt).mono ?_; rw [H9.out]; rintro e w4 ⟨rfl, hk4, ht4⟩)
     exact ⟨⟨k + 1, true, T9, by omega, by go_num, rfl, hkq.next hk4 (fun y hy => .inl hy), Lib.hid ht4, HE0⟩, by simp [intOf]; omega⟩
   · go_wp2_with (go_at_call 100; refine (rentered30_any k c1 c2 c3 c4 c _ HP.out hBq HX.out TQ.out hlt).mono ?_; rw [H9.out]; rintro e w4 ⟨rfl, hk4, ht4⟩)
     exact ⟨⟨k + 1, true, T9, by omega, by go_num, rfl, hkq.next hk4 (fun y hy => .inl hy), Lib.hid ht4, HE0⟩, by simp [intOf]; omega⟩
   · go_wp2_with (go_at_call 100; refine (rentered30_any k c1 c2 c3 c4 c _ HP.out hBq HX.out TQ.out hlt).mono ?_; rw [H9.out]; rintro e w4 ⟨rfl, hk4, ht4⟩)
     exact ⟨⟨k + 1, true, T9, by omega, by go_num, rfl, hkq.next hk4 (fun y hy => .inl hy), Lib.hid ht4, HE0⟩, by simp [intOf]; omega⟩
 have HE9 : Hid (∀ s, edgeX p k s = returnedX p k n2 s) := Lib.hid (fun s => by rw [HEE.out, if_neg k1, if_neg k2])
 have z1 : (ek == 1) = false := by simp; omega
 have z2 : (ek == 5) = false := by simp; omega
 have z3 : (ek == 2) = false := by simp; omega
 clear HEE hek1 hek5 k1 k2
 obtain ⟨T9, b9, h9⟩ : ∃ T9 b9, returnedX p k n2 (Tk, false) = (T9, b9) := ⟨_, _, rfl⟩
 have HE0 : Hid (roundEX p (k + 1) (T1, m1) = (T9, mk || b9)) := Lib.hid (by rw [HRK.out, HE9.out, returnedX_lin p k n2 Tk mk, h9])
 have H9 := Lib.hid h9
 clear h9
 cases mk <;> cases b9
 · go_wp2_with (go_at_call 101; refine (rreturnedX_any k c1 c2 c3 c4 c cL _ HE.out HP.out hBq HX.out TQ.out hlt hN1).mono ?_; rw [H9.out]; rintro e w4 ⟨rfl, hk4, ht4⟩)
   exact ⟨⟨k + 1, false, T9, by omega, by go_num, rfl, hkq.next hk4 (fun y hy => .inl hy), Lib.hid ht4, HE0⟩, by simp [intOf]; omega⟩
 · go_wp2_with (go_at_call 101; refine (rreturnedX_any k c1 c2 c3 c4 c cL _ HE.out HP.out hBq HX.out TQ.out hlt hN1).mono ?_; rw [H9.out]; rintro e w4 ⟨rfl, hk4, ht4⟩)
   exact ⟨⟨k + 1, true, T9, by omega, by go_num, rfl, hkq.next hk4 (fun y hy => .inl hy), Lib.hid ht4, HE0⟩, by simp [intOf]; omega⟩
 · go_wp2_with (go_at_call 101; refine (rreturnedX_any k c1 c2 c3 c4 c cL _ HE.out HP.out hBq HX.out TQ.out hlt hN1).mono ?_; rw [H9.out]; rintro e w4 ⟨rfl, hk4, ht4⟩)
   exact ⟨⟨k + 1, true, T9, by omega, by go_num, rfl, hkq.next hk4 (fun y hy => .inl hy), Lib.hid ht4, HE0⟩, by simp [intOf]; omega⟩
 · go_wp2_with (go_at_call 101; refine (rreturnedX_any k c1 c2 c3 c4 c cL _ HE.out HP.out hBq HX.out TQ.out hlt hN1).mono ?_; rw [H9.out]; rintro e w4 ⟨rfl, hk4, ht4⟩)
   exact ⟨⟨k + 1, true, T9, by omega, by go_num, rfl, hkq.next hk4 (fun y hy => .inl hy), Lib.hid ht4, HE0⟩, by simp [intOf]; omega⟩
end Go.Proofs.YtooejoajojanjaaGreatDoor
namespace Go.Df
open Go.RowKit
namespace If
open Sp
open Classical in
/-- The pairs of the path edges at a node, in their order. -/
noncomputable def pairX (p : Px) (n : Nat) : List Pr := pairsBy (ofNats (List.range p.F.toNat)) fun a => ofNats ((List.range p.F.toNat).filter fun d => decide (PEx p a.toNat n d))
open Classical in
/-- The facts at a node for what a key says holds at the start. -/
noncomputable def keyX (p : Px) (n : Nat) (a : Int) : List Int := if a < 0 then [] else ofNats ((List.range p.F.toNat).filter fun d => decide (PEx p a.toNat n d))
end If
end Go.Df
namespace Go.Df
open Go.RowKit
namespace Sp
open If
def startsI (ns : List Nd) (i : Nat) : List Nat := (List.range i).filter fun j => (gn ns j).k == 1
end Sp
namespace If
open Sp
noncomputable def sumP (p : Px) (i j : Nat) : Su :=
 ⟨(gn p.ns j).f, if kindAt p.ns (gn p.ns j).f 3 < i then pairX p (kindAt p.ns (gn p.ns j).f 3).toNat else [], if kindAt p.ns (gn p.ns j).f 4 < i then pairX p (kindAt p.ns (gn p.ns j).f 4).toNat else []⟩
noncomputable def prI (p : Px) (i : Nat) : List Su := (startsI p.ns i).map (sumP p i)
noncomputable def sumF (p : Px) (j : Nat) : Su := ⟨(gn p.ns j).f, pairX p (kindAt p.ns (gn p.ns j).f 3).toNat, pairX p (kindAt p.ns (gn p.ns j).f 4).toNat⟩
noncomputable def fulI (p : Px) (i : Nat) : List Su := (startsI p.ns i).map (sumF p)
section
variable {p : Px} (ho : OkX p)
include ho
def kOf : Bool → Int
 | false => 3
 | true => 4
end
end If
end Go.Df
namespace Go.Df
open Go.RowKit
namespace If
open Sp
def iniI (ns : List Nd) (F i : Nat) : List (Nat × Nat) := (startsI ns i).flatMap fun n => (List.range F).map fun a => (n, a)
theorem noSt_wf (p : Pb) : Wf p noSt := ⟨by simp [noSt], by simp [noSt], by simp [noSt], by simp [noSt], by simp [noSt], by simp [noSt]⟩
end If
end Go.Df
namespace Go.Proofs.YtooejoajojanjaaGreatDoor
open Go.RowKit Go.Df Go.Df.If
def GetFul (w : World) (L : List Su) (er : Int) (e : Ending) (w' : World) : Prop := ∃ A n c, e = .returned (.tuple #[.slice A n c, .int .i64 er]) ∧ n ≤ 9223372036854775807 ∧ SmW w' A n L ∧ Below w.heap.size w w'
end Go.Proofs.YtooejoajojanjaaGreatDoor
namespace Go.Df
open Go.RowKit
namespace If
def prcells (l : List Pr) : List Value := l.flatMap fun x => [.int .i64 x.i, .int .i64 x.o]
theorem prcells_at : ∀ (l : List Pr) {i : Nat} (_ : i < l.length), (prcells l)[i * 2]? = some (.int .i64 (gp l i).i) ∧ (prcells l)[i * 2 + 1]? = some (.int .i64 (gp l i).o)
 | x :: l, 0, _ => by simp [prcells, gp]
 | x :: l, i + 1, h => by
   have h1 := prcells_at l (i := i) (by simpa using h)
   have e : prcells (x :: l) = [.int .i64 x.i, .int .i64 x.o] ++ prcells l := rfl
   have e2 : gp (x :: l) (i + 1) = gp l i := by simp [gp]
   rw [e, e2]
   refine ⟨?_, ?_⟩
   · rw [List.getElem?_append_right (by simp; omega), show (i + 1) * 2 - [Value.int .i64 x.i, .int .i64 x.o].length = i * 2 by simp; omega]; exact h1.1
   · rw [List.getElem?_append_right (by simp; omega), show (i + 1) * 2 + 1 - [Value.int .i64 x.i, .int .i64 x.o].length = i * 2 + 1 by simp; omega]; exact h1.2
theorem Prs.own {w : World} {base : Nat} {e : TypeId} {A : Option Addr} {n c : Nat} {l : List Pr} (h : w.ownsRow base e 2 (.slice A n c) n (prcells l)) (hl : l.length = n) : Prs w A n l ∧ n ≤ c := by
 by_cases h0 : 0 < n
 · obtain ⟨g, c', hv, hb, hg, hc, -, hcell, -⟩ := own_cellsT h h0
   injection hv with e1 e2 e3
   subst e1
   subst e3
   exact ⟨⟨hl, fun _ => ⟨g, 0, rfl, hg, fun i hi => by
     obtain ⟨h1, h2⟩ := prcells_at l (i := i) (by omega)
     rw [Nat.zero_add, hcell _ (by omega), hcell _ (by omega)]
     exact ⟨h1, h2⟩⟩⟩, hc⟩
 · exact ⟨⟨hl, fun h => absurd h h0⟩, by omega⟩
end If
end Go.Df
namespace Go.Proofs.YtooejoajojanjaaGreatDoor
open Go.RowKit Go.Df Go.Df.If
end Go.Proofs.YtooejoajojanjaaGreatDoor
namespace Go.Df
open Go.RowKit
namespace If
open Sp
theorem set_apartN {w : World} {b o b' o' : Nat} {u u' v : Value} (h : w.cell? ⟨b, o, none⟩ = some u) (h' : w.cell? ⟨b', o', none⟩ = some u') (hn : u ≠ u') : (w.setCell ⟨b, o, none⟩ v).cell? ⟨b', o', none⟩ = some u' := by
 rw [set_other, h']
 by_cases e : b = b'
 · by_cases e2 : o = o'
   · subst e e2
     rw [h] at h'
     exact absurd (Option.some.inj h') hn
   · exact .inr e2
 · exact .inl e
theorem prs_apart {w : World} {b o : Nat} {u v : Value} {A : Option Addr} {n : Nat} {l : List Pr} (h : w.cell? ⟨b, o, none⟩ = some u) (hn : ∀ x, u ≠ .int .i64 x) (hi : Prs w A n l) : Prs (w.setCell ⟨b, o, none⟩ v) A n l :=
 ⟨hi.1, fun h0 => by
   obtain ⟨b', o', e, hl, hc⟩ := hi.2 h0
   exact ⟨b', o', e, by simpa [World.setCell] using hl, fun i hi2 => ⟨set_apartN h (hc i hi2).1 (hn _), set_apartN h (hc i hi2).2 (hn _)⟩⟩⟩
structure PrM (w : World) (g N i : Nat) (f : Nat → List Pr) : Prop where
 l : g < w.heap.size
 c : ∀ x, x < N → ∃ A m c, w.cell? ⟨g, x, none⟩ = some (.slice A m c) ∧ m ≤ c ∧ Prs w A m (if x < i then f x else [])
 fr : ∀ x, w.frozen? ⟨g, x, none⟩ = false
section
variable {w w1 : World} {g N i : Nat} {f : Nat → List Pr}
theorem PrM.kept (h : PrM w g N i f) (hk : Kept [] w w1) : PrM w1 g N i f :=
 ⟨Nat.lt_of_lt_of_le h.l hk.size, fun x hx => by
   obtain ⟨A, m, c, h1, h2, h3⟩ := h.c x hx
   exact ⟨A, m, c, (hk.cell g x h.l (by simp)).trans h1, h2, h3.later hk.toBelow⟩, fun x => (hk.frozen g x h.l (by simp)).trans (h.fr x)⟩
theorem PrM.set (h : PrM w g N i f) (hi : i < N) {A : Option Addr} {m c : Nat} (hA : Prs w A m (f i)) (hm : m ≤ c) : PrM (w.setCell ⟨g, i, none⟩ (.slice A m c)) g N (i + 1) f := by
 obtain ⟨A0, m0, c0, h0, -, -⟩ := h.c i hi
 refine ⟨by simpa [World.setCell] using h.l, fun x hx => ?_, fun x => by simpa using h.fr x⟩
 by_cases e : x = i
 · subst e
   exact ⟨A, m, c, set_same h0, hm, by rw [if_pos (by omega)]; exact prs_apart h0 (by simp) hA⟩
 · obtain ⟨Ax, mx, cx, h1, h2, h3⟩ := h.c x hx
   refine ⟨Ax, mx, cx, by rw [set_other (.inr (fun e2 => e e2.symm))]; exact h1, h2, ?_⟩
   have e9 : (if x < i + 1 then f x else []) = (if x < i then f x else []) := by
     by_cases e2 : x < i
     · rw [if_pos e2, if_pos (by omega)]
     · rw [if_neg e2, if_neg (by omega)]
   rw [e9]
   exact prs_apart h0 (by simp) h3
theorem PrM.start {MR : Array Value} {t : TypeId} (h : w.heap[g]? = some (.cells MR t (0, 0))) (hM : ∀ i, i < N → MR[i]? = some (.slice none 0 0)) : PrM w g N 0 f :=
 ⟨(Array.getElem?_eq_some_iff.1 h).1, fun x hx => ⟨none, 0, 0, by simp [World.cell?, h, hM x hx], Nat.le_refl _, by rw [if_neg (by omega)]; exact ⟨rfl, fun h0 => absurd h0 (by omega)⟩⟩, fun x => by simp [World.frozen?, h]⟩
end
end If
end Go.Df
namespace Go.Proofs.YtooejoajojanjaaGreatDoor
open Go.RowKit Go.Df Go.Df.If
attribute [local go_sem ↓] Go.wp_at_zero Go.wp_at_succ
variable {p : Pb} {N F mN : Nat} {A1 A2 A3 A4 : Option Addr} {n2 n3 n4 : Nat} {X : List Nat} {bs : Nat → Nat} {r : Nat} {w0 w : World} {T : Nat → Nat → Nat → Bool}
end Go.Proofs.YtooejoajojanjaaGreatDoor
namespace Go.Proofs.YtooejoajojanjaaGreatDoor
open Go.RowKit Go.Df Go.Df.If
attribute [local go_sem ↓] Go.wp_at_zero Go.wp_at_succ
variable {p : Pb} {N F mN : Nat} {A1 A2 A3 A4 : Option Addr} {n2 n3 n4 : Nat} {X : List Nat} {bs : Nat → Nat} {r : Nat} {w0 w : World} {T : Nat → Nat → Nat → Bool}
def truthOf : Value → Nat | .bool true => 1 | _ => 0
end Go.Proofs.YtooejoajojanjaaGreatDoor
namespace Go.Df
open Go.RowKit
namespace If
def RwP (base : Nat) (ti : TypeId) (R : Nat → Option Addr × Nat × Nat) (L : Nat → List Pr) (n : Nat) (w : World) : Prop :=
 ∀ x, x < n → Prs w (R x).1 (R x).2.1 (L x) ∧ (R x).2.1 ≤ (R x).2.2 ∧ ∀ a, (R x).1 = some a → base ≤ a.block ∧ Tag w a.block ti
theorem prs_keptT {X : List Nat} {w w' : World} {A : Option Addr} {m : Nat} {l : List Pr} (h : Prs w A m l) (hk : Kept X w w') (hA : ∀ a, A = some a → a.block ∉ X) : Prs w' A m l :=
 ⟨h.1, fun hn => by
   obtain ⟨b, o, e, hl, hc⟩ := h.2 hn
   exact ⟨b, o, e, Nat.lt_of_lt_of_le hl hk.size, fun i hi => ⟨(hk.cell b _ hl (hA _ e)).trans (hc i hi).1, (hk.cell b _ hl (hA _ e)).trans (hc i hi).2⟩⟩⟩
theorem RwP.kept {base : Nat} {ti : TypeId} {R : Nat → Option Addr × Nat × Nat} {L : Nat → List Pr} {n : Nat} {X : List Nat} {w w' : World} (h : RwP base ti R L n w) (hk : Kept X w w') (hX : ∀ b, Tag w b ti → base ≤ b → b ∉ X) : RwP base ti R L n w' := fun x hx => by
 obtain ⟨h1, h2, h3⟩ := h x hx
 exact ⟨prs_keptT h1 hk (fun a ha => hX _ (h3 a ha).2 (h3 a ha).1), h2, fun a ha => ⟨(h3 a ha).1, (h3 a ha).2.same (hk.block _ (h3 a ha).2.lt (hX _ (h3 a ha).2 (h3 a ha).1))⟩⟩
def updP (f : Nat → Option Addr × Nat × Nat) (n : Nat) (x : Option Addr × Nat × Nat) : Nat → Option Addr × Nat × Nat := fun i => if i = n then x else f i
theorem RwP.snoc {base : Nat} {ti : TypeId} {R : Nat → Option Addr × Nat × Nat} {L : Nat → List Pr} {n : Nat} {w : World} (h : RwP base ti R L n w) {A : Option Addr} {m c : Nat} (hA : Prs w A m (L n)) (hm : m ≤ c) (ha : ∀ a, A = some a → base ≤ a.block ∧ Tag w a.block ti) : RwP base ti (updP R n (A, m, c)) L (n + 1) w := fun x hx => by
 unfold updP
 by_cases e : x = n
 · subst e; rw [if_pos rfl]; exact ⟨hA, hm, ha⟩
 · rw [if_neg e]; exact h x (by omega)
end If
end Go.Df
namespace Go.Proofs.YtooejoajojanjaaGreatDoor
open Go.RowKit Go.Df Go.Df.If
attribute [local go_sem ↓] Go.wp_at_zero Go.wp_at_succ
end Go.Proofs.YtooejoajojanjaaGreatDoor
namespace Go.Df
open Go.RowKit
namespace Sp
end Sp
namespace If
open Sp
noncomputable def sumOf (p : Pb) (i : Nat) : Su := ⟨(gn p.ns i).f, pairL p (kindAt p.ns (gn p.ns i).f 3).toNat, pairL p (kindAt p.ns (gn p.ns i).f 4).toNat⟩
open Classical in
/-- The summaries of the functions whose starts are reached, of the first i nodes. -/
noncomputable def sumI (p : Pb) : Nat → List Su
 | 0 => []
 | i + 1 => sumI p i ++ (if (gn p.ns i).k = 1 ∧ PE p 0 i 0 then [sumOf p i] else [])
structure SuR where
 f : Int
 E : Option Addr
 ne : Nat
 ce : Nat
 T : Option Addr
 nt : Nat
 ct : Nat
def sucells (l : List SuR) : List Value := l.flatMap fun x => [.int .i64 x.f, .slice x.E x.ne x.ce, .slice x.T x.nt x.ct]
theorem sucells_at : ∀ (l : List SuR) {i : Nat} {x : SuR} (_ : l[i]? = some x), (sucells l)[i * 3]? = some (.int .i64 x.f) ∧ (sucells l)[i * 3 + 1]? = some (.slice x.E x.ne x.ce) ∧ (sucells l)[i * 3 + 2]? = some (.slice x.T x.nt x.ct)
 | [], i, x, h => by simp at h
 | y :: l, 0, x, h => by
   have : y = x := by simpa using h
   subst this
   simp [sucells]
 | y :: l, i + 1, x, h => by
   have h1 := sucells_at l (i := i) (x := x) (by simpa using h)
   have e : sucells (y :: l) = [.int .i64 y.f, .slice y.E y.ne y.ce, .slice y.T y.nt y.ct] ++ sucells l := rfl
   rw [e]
   refine ⟨?_, ?_, ?_⟩
   · rw [List.getElem?_append_right (by simp; omega), show (i + 1) * 3 - [Value.int .i64 y.f, .slice y.E y.ne y.ce, .slice y.T y.nt y.ct].length = i * 3 by simp; omega]; exact h1.1
   · rw [List.getElem?_append_right (by simp; omega), show (i + 1) * 3 + 1 - [Value.int .i64 y.f, .slice y.E y.ne y.ce, .slice y.T y.nt y.ct].length = i * 3 + 1 by simp; omega]; exact h1.2.1
   · rw [List.getElem?_append_right (by simp; omega), show (i + 1) * 3 + 2 - [Value.int .i64 y.f, .slice y.E y.ne y.ce, .slice y.T y.nt y.ct].length = i * 3 + 2 by simp; omega]; exact h1.2.2
def RwS (base : Nat) (ti : TypeId) (w : World) (l : List SuR) (L : List Su) : Prop :=
 l.length = L.length ∧ ∀ (i : Nat) (x : SuR) (u : Su), l[i]? = some x → L[i]? = some u → x.f = u.f ∧ Prs w x.E x.ne u.x ∧ Prs w x.T x.nt u.y ∧ (∀ a, x.E = some a → base ≤ a.block ∧ Tag w a.block ti) ∧ ∀ a, x.T = some a → base ≤ a.block ∧ Tag w a.block ti
theorem RwS.kept {base : Nat} {ti : TypeId} {l : List SuR} {L : List Su} {X : List Nat} {w w' : World} (h : RwS base ti w l L) (hk : Kept X w w') (hX : ∀ b, Tag w b ti → base ≤ b → b ∉ X) : RwS base ti w' l L :=
 ⟨h.1, fun i x u h1 h2 => by
   obtain ⟨e1, e2, e3, e4, e5⟩ := h.2 i x u h1 h2
   exact ⟨e1, prs_keptT e2 hk (fun a ha => hX _ (e4 a ha).2 (e4 a ha).1), prs_keptT e3 hk (fun a ha => hX _ (e5 a ha).2 (e5 a ha).1), fun a ha => ⟨(e4 a ha).1, (e4 a ha).2.same (hk.block _ (e4 a ha).2.lt (hX _ (e4 a ha).2 (e4 a ha).1))⟩, fun a ha => ⟨(e5 a ha).1, (e5 a ha).2.same (hk.block _ (e5 a ha).2.lt (hX _ (e5 a ha).2 (e5 a ha).1))⟩⟩⟩
theorem RwS.nil (base : Nat) (ti : TypeId) (w : World) : RwS base ti w [] [] := ⟨rfl, fun i x u h => by simp at h⟩
theorem RwS.snoc {base : Nat} {ti : TypeId} {w : World} {l : List SuR} {L : List Su} (h : RwS base ti w l L) {x : SuR} {u : Su} (e1 : x.f = u.f) (e2 : Prs w x.E x.ne u.x) (e3 : Prs w x.T x.nt u.y) (e4 : ∀ a, x.E = some a → base ≤ a.block ∧ Tag w a.block ti) (e5 : ∀ a, x.T = some a → base ≤ a.block ∧ Tag w a.block ti) : RwS base ti w (l ++ [x]) (L ++ [u]) := by
 refine ⟨by simp [h.1], fun i y v h1 h2 => ?_⟩
 by_cases hi : i < l.length
 · rw [List.getElem?_append_left hi] at h1
   rw [List.getElem?_append_left (by rw [← h.1]; exact hi)] at h2
   exact h.2 i y v h1 h2
 · rw [List.getElem?_append_right (by omega)] at h1
   rw [List.getElem?_append_right (by rw [← h.1]; omega), ← h.1] at h2
   have hi2 : i - l.length = 0 := by
     rcases Nat.eq_zero_or_pos (i - l.length) with h9 | h9
     · exact h9
     · rw [List.getElem?_eq_none (by simp; omega)] at h1; cases h1
   rw [hi2] at h1 h2
   have h1 : x = y := by simpa using h1
   have h2 : u = v := by simpa using h2
   subst h1 h2
   exact ⟨e1, e2, e3, e4, e5⟩
def Sums (w : World) (A : Option Addr) (n : Nat) (L : List Su) : Prop :=
 L.length = n ∧ (0 < n → ∃ b o, A = some ⟨b, o, none⟩ ∧ b < w.heap.size ∧ ∀ i u, L[i]? = some u → ∃ E ne ce T nt ct, w.cell? ⟨b, o + i * 3, none⟩ = some (.int .i64 u.f) ∧ w.cell? ⟨b, o + i * 3 + 1, none⟩ = some (.slice E ne ce) ∧ w.cell? ⟨b, o + i * 3 + 2, none⟩ = some (.slice T nt ct) ∧ Prs w E ne u.x ∧ Prs w T nt u.y)
theorem Sums.of {w : World} {base b2 : Nat} {ti te : TypeId} {A : Option Addr} {n c : Nat} {l : List SuR} {L : List Su} (h : w.ownsRow base te 3 (.slice A n c) n (sucells l)) (hl : l.length = n) (hr : RwS b2 ti w l L) : Sums w A n L := by
 refine ⟨by rw [← hr.1, hl], fun h0 => ?_⟩
 obtain ⟨g, c', hv, hb, hg, hc, -, hcell, -⟩ := own_cellsT h h0
 injection hv with e1 e2 e3
 refine ⟨g, 0, e1, hg, fun i u hu => ?_⟩
 have hi : i < l.length := by
   rcases Nat.lt_or_ge i L.length with h9 | h9
   · rw [hr.1]; exact h9
   · rw [List.getElem?_eq_none h9] at hu; cases hu
 obtain ⟨x, hx⟩ : ∃ x, l[i]? = some x := ⟨_, List.getElem?_eq_getElem hi⟩
 obtain ⟨h1, h2, h3⟩ := sucells_at l hx
 obtain ⟨f1, f2, f3, -, -⟩ := hr.2 i x u hx hu
 rw [Nat.zero_add]
 exact ⟨x.E, x.ne, x.ce, x.T, x.nt, x.ct, by rw [hcell _ (by omega), h1, f1], by rw [hcell _ (by omega), h2], by rw [hcell _ (by omega), h3], f2, f3⟩
theorem Sums.later {w w' : World} {A : Option Addr} {n : Nat} {L : List Su} (h : Sums w A n L) (hb : Below w.heap.size w w') : Sums w' A n L :=
 ⟨h.1, fun h0 => by
   obtain ⟨b, o, e, hl, hc⟩ := h.2 h0
   refine ⟨b, o, e, Nat.lt_of_lt_of_le hl hb.size, fun i u hu => ?_⟩
   obtain ⟨E, ne, ce, T, nt, ct, h1, h2, h3, h4, h5⟩ := hc i u hu
   exact ⟨E, ne, ce, T, nt, ct, (hb.cell (p := ⟨b, _, none⟩) hl).trans h1, (hb.cell (p := ⟨b, _, none⟩) hl).trans h2, (hb.cell (p := ⟨b, _, none⟩) hl).trans h3, h4.later hb, h5.later hb⟩⟩
end If
end Go.Df
namespace Go.Df
open Go.RowKit
end Go.Df
namespace Go.Proofs.YtooejoajojanjaaGreatDoor
open Go.RowKit Go.Df Go.Df.If
attribute [local go_sem ↓] Go.wp_at_zero Go.wp_at_succ
set_option maxHeartbeats 1000000 in
theorem rpbefore_any (a b c d : Int) (w : World) :
   Calls Tryz.prog 109 #[.agg #[.int .i64 a, .int .i64 b], .agg #[.int .i64 c, .int .i64 d]] w fun e w' => e = .returned (.bool (lessR ⟨a, b⟩ ⟨c, d⟩)) ∧ Below w.heap.size w w' := by
 go_enter Tryz.func109, Tryz.ntmps109
 go_wp2
 all_goals (go_ret; refine ⟨ret_bool ?_, by go_grown⟩; unfold lessR; simp_all; try omega)
set_option maxHeartbeats 1000000 in
theorem rsbefore_any (a b c d : Int) (w : World) :
   Calls Tryz.prog 62 #[.agg #[.int .i64 a, .int .i64 b], .agg #[.int .i64 c, .int .i64 d]] w fun e w' => e = .returned (.bool (lessD ⟨a, b⟩ ⟨c, d⟩)) ∧ Below w.heap.size w w' := by
 go_enter Tryz.func62, Tryz.ntmps62
 go_wp2
 all_goals (go_ret; refine ⟨ret_bool ?_, by go_grown⟩; unfold lessD; simp_all; try omega)
set_option maxHeartbeats 1000000 in
theorem rfits_any (a b F : Int) (w : World) :
   Calls Tryz.prog 108 #[.agg #[.int .i64 a, .int .i64 b], .int .i64 F] w fun e w' => e = .returned (.bool (decide (¬ (a < 0 ∨ F ≤ a ∨ b < 0 ∨ F ≤ b)))) ∧ Below w.heap.size w w' := by
 go_enter Tryz.func108, Tryz.ntmps108
 go_wp2
 all_goals (go_ret; refine ⟨ret_bool ?_, by go_grown⟩; (first | (simp_all; done) | (simp_all; omega) | (rw [eq_comm, decide_eq_true_eq]; omega) | (rw [eq_comm, decide_eq_false_iff_not]; omega)))
set_option maxRecDepth 100000 in
set_option maxHeartbeats 8000000 in
theorem rfcheck_any (A : Option Addr) (n c : Nat) (F : Int) (l : List Pr) (w : World) (hp : Prs w A n l) :
   Calls Tryz.prog 61 #[.slice A n c, .int .i64 F] w fun e w' => e = .returned (.int .i64 (flErr F l)) ∧ Below w.heap.size w w' := by
 have HP := Lib.hid hp
 have HL := Lib.hid hp.1
 clear hp
 by_cases f0 : F < 1
 · have z : decide (F < 1) = true := by simpa using f0
   have hE : Hid (flErr F l = 4) := by show _ = _; unfold flErr; rw [if_pos (by omega)]
   go_enter Tryz.func61, Tryz.ntmps61
   go_wp2_with fail
   go_ret
   exact ⟨ret_int hE.out.symm, Below.refl _ _⟩
 have zf0 : decide (F < 1) = false := by simpa using f0
 by_cases f1 : 1024 < F
 · have z : decide (1024 < F) = true := by simpa using f1
   have hE : Hid (flErr F l = 4) := by show _ = _; unfold flErr; rw [if_pos (by omega)]
   go_enter Tryz.func61, Tryz.ntmps61
   go_wp2_with fail
   go_ret
   exact ⟨ret_int hE.out.symm, Below.refl _ _⟩
 have zf1 : decide (1024 < F) = false := by simpa using f1
 by_cases t1 : 8192 < n
 · have d1 : decide ((8192 : Int) < n) = true := by simp; omega
   have hE : Hid (flErr F l = 3) := by show _ = _; unfold flErr; rw [if_neg (by omega), HL.out, if_pos (by omega)]
   go_enter Tryz.func61, Tryz.ntmps61
   go_wp2_with fail
   go_ret
   exact ⟨ret_int hE.out.symm, Below.refl _ _⟩
 have d1 : decide ((8192 : Int) < n) = false := by simp; omega
 have HF1 : Hid (1 ≤ F) := by show _ ≤ _; omega
 have HF2 : Hid (F ≤ 1024) := by show _ ≤ _; omega
 have h8 : Hid (l.length ≤ 8192) := by show _ ≤ _; rw [HL.out]; omega
 have hn8 : n ≤ 8192 := by omega
 clear f0 f1 t1
 go_enter Tryz.func61, Tryz.ntmps61
 go_wp2_with fail
 go_loopw [5, 6] (fun z i wr => ∃ j : Nat, j ≤ n ∧ i = .int .i64 j ∧ z = .bool (decide (∃ x, x < j ∧ gp l x = ⟨0, 0⟩)) ∧ Kept [] w wr ∧ Hid (∀ x, x < j → prErr F l x = 0)) (fun _ i _ => n - (intOf i).toNat)
 case atStart => exact ⟨0, Nat.zero_le _, rfl, congrArg Value.bool (by simp), Kept.refl _ _, Lib.hid (fun j hj => absurd hj (by omega))⟩
 case round =>
   obtain ⟨j, hj, rfl, rfl, hkr, hno⟩ := hrel
   obtain ⟨zz, hzz⟩ : ∃ zz, decide (∃ x, x < j ∧ gp l x = (⟨0, 0⟩ : Pr)) = zz := ⟨_, rfl⟩
   rw [hzz]
   have HZZ := Lib.hid hzz
   clear hzz
   have hBr := hkr.toBelow
   by_cases hlt : j < n
   · obtain ⟨b, o, rfl, hl, hc⟩ := (HP.out.later hBr).2 (by omega)
     obtain ⟨h1, h2⟩ := hc j hlt
     have HC := Lib.hid hc
     have LB := Lib.hid hl
     clear hc
     obtain ⟨xi, xo, en⟩ : ∃ xi xo, gp l j = ⟨xi, xo⟩ := ⟨_, _, rfl⟩
     rw [en] at h1 h2
     have HE := Lib.hid en
     clear en
     have hj9 : (j : Int) < (n : Int) := by omega
     have hbad : Hid (∀ e, prErr F l j = e → e ≠ 0 → flErr F l = e) := fun e h1 h2 => fl_hit HF1.out HF2.out h8.out hno.out (by rw [HL.out]; exact hlt) h1 h2
     have hstep : Hid (prErr F l j = 0 → ∀ x, x < j + 1 → prErr F l x = 0) := fun h0 x hx => by
       rcases Nat.lt_or_ge x j with h9 | h9
       · exact hno.out x h9
       · obtain rfl : x = j := by omega
         exact h0
     have HEr : Hid (prErr F l j = if xi < 0 ∨ F ≤ xi ∨ xo < 0 ∨ F ≤ xo then 4 else if 0 < j ∧ lessR (gp l (j - 1)) ⟨xi, xo⟩ = false then 13 else 0) := by
       show _ = _
       unfold prErr
       rw [HE.out]
     go_wp2_with fail
     refine (rfits_any xi xo F _).mono ?_
     rintro e w3 ⟨rfl, hb3⟩
     have hk3 : Kept [] wr w3 := (Kept.refl _ _).call hb3
     have hkw3 : Kept [] w w3 := hkr.call hb3
     by_cases r0 : xi < 0 ∨ F ≤ xi ∨ xo < 0 ∨ F ≤ xo
     · rw [decide_eq_false (not_not_intro r0)]
       have hE := Lib.hid (hbad.out 4 (by rw [HEr.out, if_pos r0]) (by omega))
       clear r0
       go_wp2_with fail
       go_ret
       exact ⟨ret_int hE.out.symm, hkw3.toBelow⟩
     rw [decide_eq_true r0]
     have HEy : Hid (prErr F l j = if 0 < j ∧ lessR (gp l (j - 1)) ⟨xi, xo⟩ = false then 13 else 0) := by
       show _ = _
       rw [HEr.out, if_neg r0]
     clear HEr r0
     replace h1 := (hk3.cell b _ LB.out (by simp)).trans h1
     replace h2 := (hk3.cell b _ LB.out (by simp)).trans h2
     have hb3' : b < w3.heap.size := Nat.lt_of_lt_of_le LB.out hk3.size
     have HNZ : Hid ((zz || (decide (xi = 0) && decide (xo = 0))) = decide (∃ x, x < j + 1 ∧ gp l x = (⟨0, 0⟩ : Pr))) := by
       show _ = _
       rw [← HZZ.out, Bool.eq_iff_iff]
       simp
       constructor
       · rintro (⟨x, h1, h2⟩ | ⟨h1, h2⟩)
         · exact ⟨x, by omega, h2⟩
         · exact ⟨j, by omega, by rw [HE.out, h1, h2]⟩
       · rintro ⟨x, h1, h2⟩
         rcases Nat.lt_or_ge x j with h3 | h3
         · exact .inl ⟨x, h3, h2⟩
         · have hxj : x = j := by omega
           rw [hxj, HE.out] at h2
           exact .inr (by simpa using h2)
     by_cases hj0 : j = 0
     · have y1 : decide (0 < j) = false := by simp; omega
       have y2 : decide ((0 : Int) < (j : Int)) = false := by simp; omega
       have hfin := Lib.hid (hstep.out (by rw [HEy.out, if_neg (by omega)]))
       clear hj0
       go_upto_region 11 with fail
       go_quiet (fail)
       by_cases exi : xi = 0
       case neg =>
         have fxi : (xi == 0) = false := by simpa using exi
         have HN2 : Hid (decide (∃ x, x < j + 1 ∧ gp l x = (⟨0, 0⟩ : Pr)) = zz) := by show _ = _; rw [← HNZ.out, decide_eq_false exi]; simp
         clear exi
         cases zz <;> (go_wp2_with fail; exact ⟨⟨j + 1, by omega, by go_num, by rw [HN2.out], hkw3.drewN _, hfin⟩, by simp [intOf]; omega⟩)
       have fxi : (xi == 0) = true := by simpa using exi
       by_cases exo : xo = 0
       · have fxo : (xo == 0) = true := by simpa using exo
         have HN2 : Hid (decide (∃ x, x < j + 1 ∧ gp l x = (⟨0, 0⟩ : Pr)) = true) := by show _ = _; rw [← HNZ.out, decide_eq_true exi, decide_eq_true exo]; simp
         clear exo exi
         cases zz <;> (go_wp2_with fail; exact ⟨⟨j + 1, by omega, by go_num, by rw [HN2.out], hkw3.drewN _, hfin⟩, by simp [intOf]; omega⟩)
       · have fxo : (xo == 0) = false := by simpa using exo
         have HN2 : Hid (decide (∃ x, x < j + 1 ∧ gp l x = (⟨0, 0⟩ : Pr)) = zz) := by show _ = _; rw [← HNZ.out, decide_eq_false exo]; simp
         clear exo exi
         cases zz <;> (go_wp2_with fail; exact ⟨⟨j + 1, by omega, by go_num, by rw [HN2.out], hkw3.drewN _, hfin⟩, by simp [intOf]; omega⟩)
     have y1 : decide (0 < j) = true := by simp; omega
     have y2 : decide ((0 : Int) < (j : Int)) = true := by simp; omega
     have y3 : IntKind.i64.wrap ((j : Int) - 1) = (j : Int) - 1 := IntWalk.i64_in _ (by omega)
     have y4 : (0 : Int) ≤ (j : Int) - 1 := by omega
     have y5 : ((j : Int) - 1).toNat = j - 1 := by omega
     have y6 : (j : Int) - 1 < (n : Int) := by omega
     have y7 : 0 < j := by omega
     have y8 : 1 ≤ j := by omega
     have y9 : (1 : Int) ≤ (j : Int) := by omega
     have y10 : j ≤ n := by omega
     have y11 : j < n + 1 := by omega
     have y12 : (j : Int) < (n : Int) + 1 := by omega
     have y13 : (j : Int) ≤ (n : Int) := by omega
     obtain ⟨p1, p2⟩ := HC.out (j - 1) (by omega)
     obtain ⟨pi, po, ep⟩ : ∃ pi po, gp l (j - 1) = ⟨pi, po⟩ := ⟨_, _, rfl⟩
     rw [ep] at p1 p2
     have q1 : w3.cell? ⟨b, o + (j - 1) * 2, none⟩ = some (.int .i64 pi) := (hk3.cell b _ LB.out (by simp)).trans p1
     have q2 : w3.cell? ⟨b, o + (j - 1) * 2 + 1, none⟩ = some (.int .i64 po) := (hk3.cell b _ LB.out (by simp)).trans p2
     have HEx : Hid (prErr F l j = if lessR ⟨pi, po⟩ ⟨xi, xo⟩ = false then 13 else 0) := by
       show _ = _
       rw [HEy.out, ep]
       simp [y7]
     clear p1 p2 ep hj0
     go_upto_region 11 with fail
     go_cut [43] (fun s wx => s = .bool (!lessR ⟨pi, po⟩ ⟨xi, xo⟩) ∧ Kept [] w3 wx)
     case first =>
       go_region_held3 (fun w' => SX0 w3 w') (exact kp0)
         (first | (go_at_call 109; refine (rpbefore_any pi po xi xo _).mono ?_; rintro e w4 ⟨rfl, hb4⟩; obtain ⟨hc4, hf4, hg4⟩ := bcell hb4; have hz4 := hb4.size; try simp at hz4))
       all_goals
         go_wp2_with fail
         go_meet
         refine ⟨rfl, ?_⟩
         (exact kpt0)
     case rest =>
       obtain ⟨rfl, hkc⟩ := hcut
       have hkwc : Kept [] w wc := keptTrans hkw3 hkc
       replace h1 := (hkc.cell b _ hb3' (by simp)).trans h1
       replace h2 := (hkc.cell b _ hb3' (by simp)).trans h2
       have hbc : b < wc.heap.size := Nat.lt_of_lt_of_le hb3' hkc.size
       clear q1 q2
       by_cases hles : lessR ⟨pi, po⟩ ⟨xi, xo⟩ = true
       · rw [hles]
         have hfin := Lib.hid (hstep.out (by rw [HEx.out, hles, if_neg (by simp)]))
         clear hles
         by_cases exi : xi = 0
         case neg =>
           have fxi : (xi == 0) = false := by simpa using exi
           have HN2 : Hid (decide (∃ x, x < j + 1 ∧ gp l x = (⟨0, 0⟩ : Pr)) = zz) := by show _ = _; rw [← HNZ.out, decide_eq_false exi]; simp
           clear exi
           cases zz <;> (go_wp2_with fail; exact ⟨⟨j + 1, by omega, by go_num, by rw [HN2.out], hkwc, hfin⟩, by simp [intOf]; omega⟩)
         have fxi : (xi == 0) = true := by simpa using exi
         by_cases exo : xo = 0
         · have fxo : (xo == 0) = true := by simpa using exo
           have HN2 : Hid (decide (∃ x, x < j + 1 ∧ gp l x = (⟨0, 0⟩ : Pr)) = true) := by show _ = _; rw [← HNZ.out, decide_eq_true exi, decide_eq_true exo]; simp
           clear exo exi
           cases zz <;> (go_wp2_with fail; exact ⟨⟨j + 1, by omega, by go_num, by rw [HN2.out], hkwc, hfin⟩, by simp [intOf]; omega⟩)
         · have fxo : (xo == 0) = false := by simpa using exo
           have HN2 : Hid (decide (∃ x, x < j + 1 ∧ gp l x = (⟨0, 0⟩ : Pr)) = zz) := by show _ = _; rw [← HNZ.out, decide_eq_false exo]; simp
           clear exo exi
           cases zz <;> (go_wp2_with fail; exact ⟨⟨j + 1, by omega, by go_num, by rw [HN2.out], hkwc, hfin⟩, by simp [intOf]; omega⟩)
       · rw [Bool.not_eq_true] at hles
         rw [hles]
         have hE := Lib.hid (hbad.out 13 (by rw [HEx.out, hles, if_pos rfl]) (by omega))
         clear hles
         go_wp2_with fail
         go_ret
         exact ⟨ret_int hE.out.symm, hkwc.toBelow⟩
   · obtain rfl : j = n := by omega
     have hall : Hid (∀ x, x < l.length → prErr F l x = 0) := fun x hx => hno.out x (by rw [HL.out] at hx; exact hx)
     have HZ := Lib.hid (fl_end HF1.out HF2.out h8.out hall.out)
     clear hno hlt
     cases zz with
     | true =>
       have hE : Hid (flErr F l = 0) := by
         show _ = _
         have h1 := of_decide_eq_true HZZ.out
         obtain ⟨x, hx, h2⟩ := h1
         rw [HZ.out, if_neg]
         rintro (h3 | h3)
         · rw [HL.out] at h3; omega
         · exact h3 (pr_first hall.out (by rw [HL.out]; exact hx) h2)
       go_wp2_with fail
       go_ret
       exact ⟨ret_int hE.out.symm, hkr.toBelow⟩
     | false =>
       have hE : Hid (flErr F l = 1) := by
         show _ = _
         have h1 := of_decide_eq_false HZZ.out
         rw [HZ.out, if_pos]
         by_cases h3 : l.length = 0
         · exact .inl h3
         · exact .inr (fun h4 => h1 ⟨0, by rw [HL.out] at h3; omega, h4⟩)
       go_wp2_with fail
       go_ret
       exact ⟨ret_int hE.out.symm, hkr.toBelow⟩
theorem rfcheck_is (A : Option Addr) (n c : Nat) (F : Int) (l : List Pr) (w : World) (hp : Prs w A n l) (pe : Int) (hpe : flErr F l = pe) :
   Calls Tryz.prog 61 #[.slice A n c, .int .i64 F] w fun e w' => e = .returned (.int .i64 pe) ∧ Below w.heap.size w w' := by
 rw [← hpe]
 exact rfcheck_any A n c F l w hp
set_option maxRecDepth 100000 in
set_option maxHeartbeats 8000000 in
theorem rifdsck_any (A1 A2 A3 A4 : Option Addr) (n1 c1 n2 c2 n3 c3 n4 c4 : Nat) (mn F : Int) (ns : List Sp.Nd) (es : List Sp.Ed) (ls : List (List Pr)) (sd : List Sd) (w : World) (hn : Nds w A1 n1 ns) (he : Eds w A2 n2 es) (hf : Flw w A3 n3 ls) (hsd : Sds w A4 n4 sd) (h4 : n4 ≤ 9223372036854775807) (hwn : ∀ j, j < n1 → (Lit.int .i64 (gn ns j).f).wf = true) (hwe : ∀ j, j < n2 → (Lit.int .i64 (ge es j).a).wf = true ∧ (Lit.int .i64 (ge es j).b).wf = true) :
   Calls Tryz.prog 28 #[.agg #[.slice A1 n1 c1, .slice A2 n2 c2, .int .i64 mn, .int .i64 F, .slice A3 n3 c3, .slice A4 n4 c4]] w fun e w' => e = .returned (.int .i64 (pbErr ⟨ns, es, mn, F, ls, sd⟩)) ∧ Below w.heap.size w w' := by
 obtain ⟨pe0, hpe0⟩ : ∃ x, pbErr ⟨ns, es, mn, F, ls, sd⟩ = x := ⟨_, rfl⟩
 rw [hpe0]
 have HPB := Lib.hid hpe0
 clear hpe0
 have HN := Lib.hid hn
 have HE := Lib.hid he
 have HF := Lib.hid hf
 have HS := Lib.hid hsd
 have HL1 := Lib.hid hn.1
 have HL2 := Lib.hid he.1
 have HL3 := Lib.hid hf.1
 have HL4 := Lib.hid hsd.1
 have HWN := Lib.hid hwn
 have HWE := Lib.hid hwe
 clear hn he hf hsd hwn hwe
 go_enter Tryz.func28, Tryz.ntmps28
 go_upto_region 1 with fail
 refine wp_named (fun W => ∃ b0, w.heap.size = b0 ∧ Blk W b0 [.slice A1 n1 c1, .slice A2 n2 c2, .int .i64 mn, .int .i64 F, .slice A3 n3 c3, .slice A4 n4 c4] ∧ Below w.heap.size w W) ⟨_, rfl, ?_, ?_⟩ ?_
 · exact kbn
 · go_grown
 rintro W ⟨b0, e0, B0, hB⟩
 rw [e0]
 have G0 : w.heap.size ≤ b0 := by omega
 clear e0
 have ⟨L0, C0, F0⟩ := B0
 go_wp2_with fail
 refine (rsuper_any _ _ _ _ _ _ _ ns es _ (HN.out.later hB) (HE.out.later hB)).mono ?_
 rintro e w1 ⟨rfl, hb1⟩
 have hk1 : Kept [] W w1 := (Kept.refl _ _).call hb1
 have hB1 := hk1.below hB hB.size (by simp)
 have ⟨L1, C1, F1⟩ := hk1.blk (by simp) B0
 clear C0 F0
 obtain ⟨se, hse⟩ : ∃ x, Sp.superErr ns es mn = x := ⟨_, rfl⟩
 rw [hse]
 have HSE := Lib.hid hse
 clear hse
 by_cases h0 : se = 0
 case neg =>
   have h0' : (se != 0) = true := by simpa using h0
   have hE : Hid (pe0 = se) := by show _ = _; rw [← HPB.out]; unfold pbErr; rw [HSE.out, if_pos h0]
   clear h0
   go_wp2_with fail
   go_ret
   exact ⟨ret_int hE.out.symm, hB1⟩
 subst h0
 by_cases f1 : F < 1
 · have z : decide (F < 1) = true := by simpa using f1
   have hE : Hid (pe0 = 4) := by show _ = _; rw [← HPB.out]; unfold pbErr; rw [HSE.out, if_neg (by simp), if_pos (show F < 1 ∨ 1024 < F by omega)]
   go_wp2_with fail
   go_ret
   exact ⟨ret_int hE.out.symm, hB1⟩
 have z1 : decide (F < 1) = false := by simpa using f1
 by_cases f2 : 1024 < F
 · have z : decide (1024 < F) = true := by simpa using f2
   have hE : Hid (pe0 = 4) := by show _ = _; rw [← HPB.out]; unfold pbErr; rw [HSE.out, if_neg (by simp), if_pos (show F < 1 ∨ 1024 < F by omega)]
   go_wp2_with fail
   go_ret
   exact ⟨ret_int hE.out.symm, hB1⟩
 have z2 : decide (1024 < F) = false := by simpa using f2
 have HFF : Hid (¬ (F < 1 ∨ 1024 < F)) := by show ¬ _; omega
 by_cases f3 : n3 = n2
 case neg =>
   have y1 : ((n3 : Int) != (n2 : Int)) = true := by simp; omega
   have y2 : (n3 != n2) = true := by simp; omega
   have hE : Hid (pe0 = 20) := by show _ = _; rw [← HPB.out]; unfold pbErr; rw [HSE.out, if_neg (by simp), if_neg HFF.out, if_pos (by rw [HL3.out, HL2.out]; exact f3)]
   go_wp2_with fail
   go_ret
   exact ⟨ret_int hE.out.symm, hB1⟩
 have y1 : ((n3 : Int) != (n2 : Int)) = false := by simp; omega
 have y2 : (n3 != n2) = false := by simp; omega
 have HLL : Hid (ls.length = es.length) := by show _ = _; rw [HL3.out, HL2.out]; exact f3
 have hn2 : n2 ≤ 32768 := by
   have h1 := HSE.out
   unfold Sp.superErr at h1
   rw [HL1.out, HL2.out] at h1
   split at h1
   · cases h1
   · omega
 subst f3
 clear f1 f2
 go_wp2_with fail
 go_loopw [4] (fun i wr => ∃ j : Nat, j ≤ n3 ∧ i = .int .i64 j ∧ Kept [] W wr ∧ Hid (∀ x, x < j → flErr F (gf ls x) = 0)) (fun i _ => n3 - (intOf i).toNat)
 case atStart => exact ⟨0, Nat.zero_le _, rfl, hk1, Lib.hid (fun j hj => absurd hj (by omega))⟩
 case round =>
   obtain ⟨j, hj, rfl, hkr, hno⟩ := hrel
   have BR := hkr.blk (by simp) B0
   have ⟨LR, CR, FR⟩ := BR
   have hBr := hkr.below hB hB.size (by simp)
   clear C1 F1
   by_cases hlt : j < n3
   · obtain ⟨b, o, rfl, hl, hc⟩ := (HF.out.later hBr).2 (by omega)
     obtain ⟨Ai, ni, ci, h1, -, hx⟩ := hc j hlt
     have HX := Lib.hid hx
     clear hc hx
     have hbad : Hid (∀ e, flErr F (gf ls j) = e → e ≠ 0 → pe0 = e) := fun e h1 h2 => HPB.out.symm.trans (pb_flow (p := ⟨ns, es, mn, F, ls, sd⟩) HSE.out HFF.out HLL.out hno.out (by show _ < ls.length; rw [HL3.out]; exact hlt) h1 h2)
     have hstep : Hid (flErr F (gf ls j) = 0 → ∀ x, x < j + 1 → flErr F (gf ls x) = 0) := fun h0 x hx => by
       rcases Nat.lt_or_ge x j with h9 | h9
       · exact hno.out x h9
       · obtain rfl : x = j := by omega
         exact h0
     obtain ⟨pe, hpe⟩ : ∃ x, flErr F (gf ls j) = x := ⟨_, rfl⟩
     have HPE := Lib.hid hpe
     clear hpe
     have x3 : (j : Int) < (n3 : Int) := by omega
     go_upto_region 11 with fail
     go_cut [5] (fun s wx => s = .int .i64 pe ∧ Kept [] wr wx)
     case first =>
       go_region_held3 (fun w' => SX0 wr w') (exact kp0)
         (first | (go_at_call 61; ((with_reducible refine (rfcheck_is _ _ _ F (gf ls j) _ (HX.out.later (Kept.toBelow (by (exact kpt0)))) pe HPE.out).mono ?_)); rintro e w3 ⟨rfl, hb3⟩; obtain ⟨hc3, hf3, hg3⟩ := bcell hb3; have hz3 := hb3.size; try simp at hz3))
       all_goals
         go_wp2_with fail
         go_meet
         refine ⟨rfl, ?_⟩
         (exact kpt0)
     case rest =>
     obtain ⟨rfl, hkc⟩ := hcut
     rename World => w5
     clear CR FR h1
     have hk5 : Kept [] W w5 := keptTrans hkr hkc
     have hB5 := hk5.below hB hB.size (by simp)
     by_cases hx0 : pe = 0
     · have hx0' : (pe != 0) = false := by simpa using hx0
       have hfin := Lib.hid (hstep.out (HPE.out.trans hx0))
       clear hx0
       go_wp2_with fail
       exact ⟨⟨j + 1, by omega, by go_num, hk5, hfin⟩, by simp [intOf]; omega⟩
     · have hx0' : (pe != 0) = true := by simpa using hx0
       have hE := Lib.hid (hbad.out pe HPE.out hx0)
       clear hx0
       go_wp2_with fail
       go_ret
       exact ⟨ret_int hE.out.symm, hB5⟩
   · obtain rfl : j = n3 := by omega
     have hall : Hid (∀ x, x < ls.length → flErr F (gf ls x) = 0) := fun x hx => hno.out x (by rw [HL3.out] at hx; exact hx)
     have HN3 : Hid (es.length = j) := Lib.hid HL2.out
     clear hno hlt hj
     go_wp2_with fail
     go_loopw [6] (fun i wz => ∃ q : Nat, q ≤ n4 ∧ i = .int .i64 q ∧ Kept [] W wz ∧ Hid (∀ x, x < q → sdErr n1 F sd x = 0)) (fun i _ => n4 - (intOf i).toNat)
     case atStart => exact ⟨0, Nat.zero_le _, rfl, hkr, Lib.hid (fun j hj => absurd hj (by omega))⟩
     case round =>
       rename World => wz
       obtain ⟨q, hq, rfl, hkz, hno⟩ := hrel
       have BZ := hkz.blk (by simp) B0
       have ⟨LZ, CZ, FZ⟩ := BZ
       have hBz := hkz.below hB hB.size (by simp)
       clear CR FR
       by_cases hlt : q < n4
       case neg =>
         obtain rfl : q = n4 := by omega
         have hE : Hid (pe0 = 0) := Lib.hid (HPB.out.symm.trans (pb_ok (p := ⟨ns, es, mn, F, ls, sd⟩) HSE.out HFF.out HLL.out hall.out (fun x hx => by show sdErr ns.length F sd x = 0; rw [HL1.out]; exact hno.out x (by rw [← HL4.out]; exact hx))))
         go_wp2_with fail
         go_ret
         exact ⟨ret_int hE.out.symm, hBz⟩
       obtain ⟨b, o, rfl, hl, hc⟩ := (HS.out.later hBz).2 (by omega)
       obtain ⟨h1, h2⟩ := hc q hlt
       have HC := Lib.hid hc
       have LB := Lib.hid hl
       clear hc
       obtain ⟨sn, sf, en⟩ : ∃ sn sf, gd sd q = ⟨sn, sf⟩ := ⟨_, _, rfl⟩
       rw [en] at h1 h2
       have HEe := Lib.hid en
       clear en
       go_upto_region 18 with fail
       refine wp_named (fun V => ∃ g, wz.heap.size = g ∧ Blk V g [.int .i64 sn, .int .i64 sf] ∧ Kept [] wz V) ⟨_, rfl, Blk.new _ _ _ _ rfl, (Kept.refl _ _).alloc _⟩ ?_
       rintro V ⟨g, eg, Bg, hkV⟩
       rw [eg]
       have hkw : Kept [] W V := keptTrans hkz hkV
       have ⟨LG, CG, FG⟩ := Bg
       have BV := hkw.blk (by simp) B0
       have ⟨LV, CV, FV⟩ := BV
       have hBV := hkw.below hB hB.size (by simp)
       clear CZ FZ h1 h2 eg
       have hbad : Hid (∀ e, sdErr n1 F sd q = e → e ≠ 0 → pe0 = e) := fun e h1 h2 => HPB.out.symm.trans (pb_seed (p := ⟨ns, es, mn, F, ls, sd⟩) HSE.out HFF.out HLL.out hall.out (j := q) (fun x hx => by show sdErr ns.length F sd x = 0; rw [HL1.out]; exact hno.out x hx) (by show _ < sd.length; rw [HL4.out]; exact hlt) (by show sdErr ns.length F sd q = e; rw [HL1.out]; exact h1) h2)
       have hstep : Hid (sdErr n1 F sd q = 0 → ∀ x, x < q + 1 → sdErr n1 F sd x = 0) := fun h0 x hx => by
         rcases Nat.lt_or_ge x q with h9 | h9
         · exact hno.out x h9
         · obtain rfl : x = q := by omega
           exact h0
       have HEr : Hid (sdErr n1 F sd q = if sn < 0 ∨ (n1 : Int) ≤ sn ∨ sf < 1 ∨ F ≤ sf then 4 else if 0 < q ∧ lessD (gd sd (q - 1)) ⟨sn, sf⟩ = false then 13 else 0) := by
         show _ = _
         unfold sdErr
         rw [HEe.out]
       by_cases r0 : sn < 0
       · have z : decide (sn < 0) = true := by simpa using r0
         have hE := Lib.hid (hbad.out 4 (by rw [HEr.out, if_pos (by omega)]) (by omega))
         go_wp2_with fail
         go_ret
         exact ⟨ret_int hE.out.symm, hBV⟩
       have r0' : decide (sn < 0) = false := by simpa using r0
       by_cases r1 : (n1 : Int) ≤ sn
       · have z : decide ((n1 : Int) ≤ sn) = true := by simpa using r1
         have hE := Lib.hid (hbad.out 4 (by rw [HEr.out, if_pos (by omega)]) (by omega))
         go_wp2_with fail
         go_ret
         exact ⟨ret_int hE.out.symm, hBV⟩
       have r1' : decide ((n1 : Int) ≤ sn) = false := by simpa using r1
       by_cases r2 : sf < 1
       · have z : decide (sf < 1) = true := by simpa using r2
         have hE := Lib.hid (hbad.out 4 (by rw [HEr.out, if_pos (by omega)]) (by omega))
         go_wp2_with fail
         go_ret
         exact ⟨ret_int hE.out.symm, hBV⟩
       have r2' : decide (sf < 1) = false := by simpa using r2
       by_cases r3 : F ≤ sf
       · have z : decide (F ≤ sf) = true := by simpa using r3
         have hE := Lib.hid (hbad.out 4 (by rw [HEr.out, if_pos (by omega)]) (by omega))
         go_wp2_with fail
         go_ret
         exact ⟨ret_int hE.out.symm, hBV⟩
       have r3' : decide (F ≤ sf) = false := by simpa using r3
       have HEy : Hid (sdErr n1 F sd q = if 0 < q ∧ lessD (gd sd (q - 1)) ⟨sn, sf⟩ = false then 13 else 0) := by
         show _ = _
         rw [HEr.out, if_neg (by omega)]
       clear HEr r0 r1 r2 r3
       by_cases hq0 : q = 0
       · have y3 : decide (0 < q) = false := by simp; omega
         have y4 : decide ((0 : Int) < (q : Int)) = false := by simp; omega
         have hfin := Lib.hid (hstep.out (by rw [HEy.out, if_neg (by omega)]))
         clear hq0
         go_upto_region 20 with fail
         go_quiet (fail)
         go_wp2_with fail
         exact ⟨⟨q + 1, by omega, by go_num, hkw.drewN _, hfin⟩, by simp [intOf]; omega⟩
       have u1 : decide (0 < q) = true := by simp; omega
       have u2 : decide ((0 : Int) < (q : Int)) = true := by simp; omega
       have u3 : IntKind.i64.wrap ((q : Int) - 1) = (q : Int) - 1 := IntWalk.i64_in _ (by omega)
       have u4 : (0 : Int) ≤ (q : Int) - 1 := by omega
       have u5 : ((q : Int) - 1).toNat = q - 1 := by omega
       have u6 : (q : Int) - 1 < (n4 : Int) := by omega
       have u7 : 0 < q := by omega
       have u8 : 1 ≤ q := by omega
       have u9 : (1 : Int) ≤ (q : Int) := by omega
       have u10 : q ≤ n4 := by omega
       have u11 : q < n4 + 1 := by omega
       have u12 : (q : Int) < (n4 : Int) + 1 := by omega
       have u13 : (q : Int) ≤ (n4 : Int) := by omega
       obtain ⟨p1, p2⟩ := HC.out (q - 1) (by omega)
       obtain ⟨pn, pf, ep⟩ : ∃ pn pf, gd sd (q - 1) = ⟨pn, pf⟩ := ⟨_, _, rfl⟩
       rw [ep] at p1 p2
       have q1 := (hkV.cell b _ LB.out (by simp)).trans p1
       have q2 := (hkV.cell b _ LB.out (by simp)).trans p2
       have hb6' : b < V.heap.size := Nat.lt_of_lt_of_le LB.out hkV.size
       have HEx : Hid (sdErr n1 F sd q = if lessD ⟨pn, pf⟩ ⟨sn, sf⟩ = false then 13 else 0) := by
         show _ = _
         rw [HEy.out, ep]
         simp [u7]
       clear p1 p2 ep hq0 HEy
       go_upto_region 20 with fail
       go_cut [96] (fun s wx => s = .bool (!lessD ⟨pn, pf⟩ ⟨sn, sf⟩) ∧ Kept [] V wx)
       case first =>
         go_region_held3 (fun w' => SX0 V w') (exact kp0)
           (first | (go_at_call 62; refine (rsbefore_any pn pf sn sf _).mono ?_; rintro e w3 ⟨rfl, hb3⟩; obtain ⟨hc3, hf3, hg3⟩ := bcell hb3; have hz3 := hb3.size; try simp at hz3))
         all_goals
           go_wp2_with fail
           go_meet
           refine ⟨rfl, ?_⟩
           (exact kpt0)
       case rest =>
         obtain ⟨rfl, hkc⟩ := hcut
         have hkwc : Kept [] W wc := keptTrans hkw hkc
         by_cases hles : lessD ⟨pn, pf⟩ ⟨sn, sf⟩ = true
         · rw [hles]
           have hfin := Lib.hid (hstep.out (by rw [HEx.out, hles, if_neg (by simp)]))
           clear hles
           go_wp2_with fail
           exact ⟨⟨q + 1, by omega, by go_num, hkwc, hfin⟩, by simp [intOf]; omega⟩
         · rw [Bool.not_eq_true] at hles
           rw [hles]
           have hE := Lib.hid (hbad.out 13 (by rw [HEx.out, hles, if_pos rfl]) (by omega))
           clear hles
           go_wp2_with fail
           go_ret
           exact ⟨ret_int hE.out.symm, hkwc.below hB hB.size (by simp)⟩
end Go.Proofs.YtooejoajojanjaaGreatDoor
