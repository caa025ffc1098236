/- Texts: Vt Zr Vu Vg Ko Nb Kr Kt Ng Npz. -/
import Derived.Test.YtooejoajojanjaaGreatDoorXSf20
import Derived.Test.YtooejoajojanjaaGreatDoorXSf22
import Derived.Test.YtooejoajojanjaaGreatDoorXSf12
import Derived.Test.YtooejoajojanjaaGreatDoorXSf11
import Derived.Test.YtooejoajojanjaaGreatDoorXSf13
import Derived.Test.YtooejoajojanjaaGreatDoorXSf07
import Derived.Test.YtooejoajojanjaaGreatDoorXSf05
import Derived.Test.YtooejoajojanjaaGreatDoorXSf19
namespace Go.Proofs.YtooejoajojanjaaGreatDoor
open Go.RowKit Go.Df Go.Df.If
attribute [local go_sem ↓] Go.wp_at_zero Go.wp_at_succ
variable {p : Px} {N F mN : Nat} {A1 A2 A3 A4 : Option Addr} {n2 n3 n4 : Nat} {X : List Nat} {bs : Nat → Nat} {r : Nat} {w0 w : World} {T : Nat → Nat → Nat → Bool} {AL : Option Addr} {nL : Nat} {u : Bool}
def truthX : Value → Nat | .bool true => 1 | _ => 0
set_option maxRecDepth 100000 in
set_option maxHeartbeats 8000000 in
theorem rcloseX_any (en : Bool) (c1 c2 c3 c4 c cL : Nat) (w : World) (hox : OkX p) (hen0 : p.kn = none → en = false) (hen1 : p.kn ≠ none → en = true) (hE : EfW p AL nL u w0) (hP : PbW p.toPb N F mN A1 A2 A3 A4 n2 n3 n4 w0) (hb0 : Below w0.heap.size w0 w) (hX : ∀ x ∈ X, w0.heap.size ≤ x) (hT : TabM N F X bs r w T) (hN1 : 0 < N) (hsnd : SndTX p (T, false)) (hmain : ∀ x ∈ p.ini, T x.1 x.2 x.2 = true) :
   Calls Tryz.prog 56 #[.agg #[.slice A1 N c1, .slice A2 n2 c2, .int .i64 mN, .int .i64 (F : Nat), .slice A3 n3 c3, .slice A4 n4 c4, .int .i64 (F : Nat), .slice (some ⟨r, 0, none⟩) N c, .slice AL nL cL, .bool u], .bool en] w fun e w' => e = .returned (.tuple #[]) ∧ Kept X w w' ∧ ∃ T', TabM N F X bs r w' T' ∧ ∀ n a d, T' n a d = true ↔ PEx p a n d := by
 have HP := Lib.hid hP
 have HOX := Lib.hid hox
 have HE := Lib.hid hE
 have HX := Lib.hid hX
 have hN8 := hP.N8
 have hF8 := hP.F8
 have hE8 : n2 ≤ 32768 := by have := (sup_parts hP.ok.sup).2.1; have := hP.ed.1; omega
 have HES := Lib.hid hP.ed.1
 have HSS := Lib.hid hP.sd.1
 have HXlt := Lib.hid hT.lt
 have HT := Lib.hid hT
 have HSN := Lib.hid hsnd
 have HMN := Lib.hid hmain
 have HFN := Lib.hid hP.Fn
 have hszw := hb0.size
 clear hP hox hE hX hT hsnd hmain
 go_enter Tryz.func56, Tryz.ntmps56
 go_upto_region 1 with fail
 refine wp_named (fun W => ∃ b0, w.heap.size = b0 ∧ Blk W b0 [.slice A1 N c1, .slice A2 n2 c2, .int .i64 mN, .int .i64 (F : Nat), .slice A3 n3 c3, .slice A4 n4 c4, .int .i64 (F : Nat), .slice (some ⟨r, 0, none⟩) N c, .slice AL nL cL, .bool u] ∧ Below w.heap.size w W) ⟨_, rfl, ?_, ?_⟩ ?_
 · exact kbn
 · go_grown
 rintro W ⟨b0, e0, B0, hB⟩
 rw [e0]
 have G0 : w.heap.size ≤ b0 := by omega
 clear e0
 have ⟨L0, C0, F0⟩ := B0
 have hX0 : b0 ∉ X := fun h => by have := HXlt.out _ h; omega
 have HXW : Hid (∀ y, W.heap.size ≤ y → y ∉ X) := fun y hy h => by have := HXlt.out _ h; have := hB.size; omega
 have HBW : Hid (Below w0.heap.size w0 W) := Lib.hid (hb0.trans (hB.mono hszw))
 go_upto_region 3 with fail
 refine wp_named (fun V => ∃ g, W.heap.size = g ∧ Blk V g [.slice A1 N c1, .slice A2 n2 c2, .int .i64 mN, .int .i64 (F : Nat), .slice A3 n3 c3, .slice A4 n4 c4] ∧ Kept [] W V) ⟨_, rfl, Blk.new _ _ _ _ rfl, (Kept.refl _ _).alloc _⟩ ?_
 rintro V ⟨bp, ep, Bp, hkV⟩
 rw [ep]
 have hXp : bp ∉ X := HXW.out bp (by omega)
 have HBV : Hid (Below w0.heap.size w0 V) := Lib.hid (HBW.out.trans (hkV.toBelow.mono HBW.out.size))
 have HwV : Hid (Kept [] w V) := Lib.hid (((Kept.refl [] w).call hB).next hkV (by simp))
 have TV := Lib.hid (HT.out.kept0 HwV.out)
 have B0V := hkV.blk (by simp) B0
 have BpV := Bp
 clear C0 F0 ep Bp
 obtain ⟨PM, hPM⟩ : ∃ PM : Nat → World → Prop, PM = fun u wr => ∃ T, TabM N F X bs r wr T ∧ SndTX p (T, false) ∧ (∀ x ∈ p.ini, T x.1 x.2 x.2 = true) ∧ unhT p.toPb T = u := ⟨_, rfl⟩
 have HPM := Lib.hid hPM
 have hPM0 : Hid (∃ u, PM u V) := Lib.hid (by rw [hPM]; exact ⟨_, T, TV.out, HSN.out, HMN.out, rfl⟩)
 clear hPM
 go_wp2_with fail
 go_loopw [5] (fun s5 wr => ∃ (m : Bool), s5 = .bool m ∧ Kept X V wr ∧ Hid (m = true → ∃ u, PM u wr) ∧ Hid (m = false → ∃ T', TabM N F X bs r wr T' ∧ ∀ n a d, T' n a d = true ↔ PEx p a n d)) (fun s5 wr => 2 * leastM PM wr + truthX s5)
 case atStart => exact ⟨true, rfl, Kept.refl _ _, Lib.hid (fun _ => hPM0.out), Lib.hid (fun h => by cases h)⟩
 case round =>
 obtain ⟨m, rfl, hkr, hex, hdone⟩ := hrel
 have B0r := hkr.blk hX0 B0V
 have Bpr := hkr.blk hXp BpV
 have ⟨L0r, C0r, F0r⟩ := B0r
 have ⟨Lpr, Cpr, Fpr⟩ := Bpr
 have hBr : Below w0.heap.size w0 wr := Kept.below HBV.out HBV.out.size HX.out hkr
 cases m with
 | false =>
   have HD := Lib.hid (hdone.out rfl)
   clear hdone hex
   go_wp2_with fail
   go_end0
   exact ⟨rfl, (keptWide HwV.out (by simp)).next hkr (fun y hy => .inl hy), HD.out⟩
 | true =>
 have hsp := leastM_spec (hex.out rfl)
 obtain ⟨lv, hlv⟩ : ∃ lv, leastM PM wr = lv := ⟨_, rfl⟩
 rw [hlv] at hsp
 have HLV := Lib.hid hlv
 rw [show PM = _ from HPM.out] at hsp
 obtain ⟨T0, hT0, hs0, hm0, hu0⟩ := hsp
 have TR := Lib.hid hT0
 have HS0 := Lib.hid hs0
 have HM0 := Lib.hid hm0
 have HU0 := Lib.hid hu0
 obtain ⟨T1, m1, h1⟩ : ∃ T1 m1, seededT p.toPb n4 (T0, false) = (T1, m1) := ⟨_, _, rfl⟩
 have H1 := Lib.hid h1
 clear hlv hT0 hs0 hm0 hu0 h1 hex hdone
 go_upto_region 5 with (go_at_call 98; refine (rseeded30_any c1 c2 c3 c4 c _ HP.out hBr HX.out TR.out).mono ?_; rw [H1.out]; rintro e w1 ⟨rfl, hk1, ht1⟩)
 have hkV1 : Kept X V w1 := hkr.next hk1 (fun y hy => .inl hy)
 have B01 := hk1.blk hX0 B0r
 have Bp1 := hk1.blk hXp Bpr
 have ⟨L01, C01, F01⟩ := B01
 have ⟨Lp1, Cp1, Fp1⟩ := Bp1
 have HB1 : Hid (Below w0.heap.size w0 w1) := Lib.hid (Kept.below HBV.out HBV.out.size HX.out hkV1)
 have TW1 := Lib.hid ht1
 clear C0r F0r Cpr Fpr ht1
 go_wp2_with fail
 go_loopw [5, 6] (fun s5 s6 wq => ∃ (k : Nat) (mk : Bool) (Tk : Nat → Nat → Nat → Bool), k ≤ n2 ∧ s6 = .int .i64 k ∧ s5 = .bool mk ∧ Kept X w1 wq ∧ Hid (TabM N F X bs r wq Tk) ∧ Hid (roundEX p k (T1, m1) = (Tk, mk))) (fun _ s6 _ => n2 - (intOf s6).toNat)
 case atStart => exact ⟨0, m1, T1, Nat.zero_le _, rfl, rfl, Kept.refl _ _, TW1, Lib.hid rfl⟩
 case round =>
 rename World => wq
 clear C01 F01 Cp1 Fp1
 obtain ⟨k, mk, Tk, hk, rfl, rfl, hkq, TQ, HRk⟩ := hrel
 have ⟨L0q, C0q, F0q⟩ := hkq.blk hX0 B01
 have ⟨Lpq, Cpq, Fpq⟩ := hkq.blk hXp Bp1
 have hBq : Below w0.heap.size w0 wq := Kept.below HB1.out HB1.out.size HX.out hkq
 by_cases hlt : k < n2
 case neg =>
   obtain rfl : k = n2 := by omega
   have HRT : Hid (roundX p T0 = (Tk, mk)) := Lib.hid (by unfold roundX; rw [HES.out, HSS.out, H1.out, HRk.out])
   have hkVq : Kept X V wq := hkV1.next hkq (fun y hy => .inl hy)
   have hsk : SndTX p (Tk, false) := fun n a d h => by
     have := roundX_snd HOX.out HS0.out n a d
     rw [HRT.out] at this
     exact this h
   have hrl := roundX_rl HOX.out T0
   rw [HRT.out] at hrl
   have hmk' : ∀ x ∈ p.ini, Tk x.1 x.2 x.2 = true := fun x hx => hrl.le _ _ _ (HM0.out x hx)
   have hPMk : PM (unhT p.toPb Tk) wq := by rw [show PM = _ from HPM.out]; exact ⟨Tk, TQ.out, hsk, hmk', rfl⟩
   have hle := leastM_le hPMk
   have HLE := Lib.hid hle
   have HPK := Lib.hid hPMk
   have HRL := Lib.hid hrl
   have HSK := Lib.hid hsk
   clear hle hPMk hsk hrl hmk'
   cases mk with
   | true =>
     have hlt' : unhT p.toPb Tk < unhT p.toPb T0 := by have h9 := roundX_unh HOX.out (T := T0) (by rw [HRT.out]); rw [HRT.out] at h9; exact h9
     have HLT := Lib.hid hlt'
     clear hlt'
     go_wp2_with fail
     refine ⟨⟨true, rfl, hkVq, Lib.hid (fun _ => ⟨_, HPK.out⟩), Lib.hid (fun h => by cases h)⟩, ?_⟩
     have h1 := HLE.out; have h2 := HLT.out; have h3 := HU0.out; have h4 := HLV.out
     simp only [truthX]
     omega
   | false =>
     have hTk : Tk = T0 := by have h9 := HRL.out.fl rfl; injection h9
     have hclo : CloX p fun a n d => T0 n a d = true := roundX_clo HOX.out HM0.out HS0.out (by rw [HRT.out])
     have HFIN : Hid (∀ n a d, Tk n a d = true ↔ PEx p a n d) := Lib.hid (fun n a d => ⟨HSK.out n a d, fun h => by rw [hTk]; exact hclo.all h⟩)
     have HUK : Hid (unhT p.toPb Tk = unhT p.toPb T0) := Lib.hid (by rw [hTk])
     clear hTk hclo
     go_wp2_with fail
     refine ⟨⟨false, rfl, hkVq, Lib.hid (fun h => by cases h), Lib.hid (fun _ => ⟨Tk, TQ.out, HFIN.out⟩)⟩, ?_⟩
     have h1 := HLE.out; have h2 := HUK.out; have h3 := HU0.out; have h4 := HLV.out
     simp only [truthX]
     omega
 have hk9 : (k : Int) < (n2 : Int) := by omega
 obtain ⟨be, oe, rfl, hle, hce⟩ := HP.out.ed.2 (by omega)
 obtain ⟨ea, eb, ek, ec, en, hea, heb, hek1, hek5⟩ := HP.out.edge hlt
 have e3 := (hBq.cell (p := ⟨be, _, none⟩) hle).trans (hce k hlt).2.2.1
 rw [en] at e3
 have hleq : be < wq.heap.size := Nat.lt_of_lt_of_le hle hBq.size
 have HEN := Lib.hid en
 have HRK : Hid (roundEX p (k + 1) (T1, m1) = edgeX p k (Tk, mk)) := by
   show _ = _
   have h9 := HRk.out
   unfold roundEX at h9 ⊢
   rw [If.up, h9]
 have HEE : Hid (∀ s, edgeX p k s = if ek = 1 ∨ ek = 5 then passedT p.toPb k F s else if ek = 2 then (if p.kn = none then s else enteredT p.toPb k F s) else returnedX p k n2 s) := Lib.hid (fun s => by
   unfold edgeX
   rw [HEN.out, HFN.out, HES.out])
 clear hce en
 by_cases k1 : ek = 1 ∨ ek = 5
 · have HE9 : Hid (∀ s, edgeX p k s = passedT p.toPb k F s) := Lib.hid (fun s => by rw [HEE.out, if_pos k1])
   clear HEE hek1 hek5
   rcases k1 with rfl | rfl
   all_goals
     obtain ⟨T9, b9, h9⟩ : ∃ T9 b9, passedT p.toPb k F (Tk, false) = (T9, b9) := ⟨_, _, rfl⟩
     have HE0 : Hid (roundEX p (k + 1) (T1, m1) = (T9, mk || b9)) := Lib.hid (by rw [HRK.out, HE9.out, passed_lin p.toPb k F Tk mk, h9])
     have H9 := Lib.hid h9
     clear h9
     cases mk <;> cases b9
     · go_wp2_with (go_at_call 99; refine (rpassed30_any k c1 c2 c3 c4 c _ HP.out hBq HX.out TQ.out hlt).mono ?_; rw [H9.out]; rintro e w4 ⟨rfl, hk4, ht4⟩)
       exact ⟨⟨k + 1, false, T9, by omega, by go_num, rfl, hkq.next hk4 (fun y hy => .inl hy), Lib.hid ht4, HE0⟩, by simp [intOf]; omega⟩
     · go_wp2_with (go_at_call 99; refine (rpassed30_any k c1 c2 c3 c4 c _ HP.out hBq HX.out TQ.out hlt).mono ?_; rw [H9.out]; rintro e w4 ⟨rfl, hk4, ht4⟩)
       exact ⟨⟨k + 1, true, T9, by omega, by go_num, rfl, hkq.next hk4 (fun y hy => .inl hy), Lib.hid ht4, HE0⟩, by simp [intOf]; omega⟩
     · go_wp2_with (go_at_call 99; refine (rpassed30_any k c1 c2 c3 c4 c _ HP.out hBq HX.out TQ.out hlt).mono ?_; rw [H9.out]; rintro e w4 ⟨rfl, hk4, ht4⟩)
       exact ⟨⟨k + 1, true, T9, by omega, by go_num, rfl, hkq.next hk4 (fun y hy => .inl hy), Lib.hid ht4, HE0⟩, by simp [intOf]; omega⟩
     · go_wp2_with (go_at_call 99; refine (rpassed30_any k c1 c2 c3 c4 c _ HP.out hBq HX.out TQ.out hlt).mono ?_; rw [H9.out]; rintro e w4 ⟨rfl, hk4, ht4⟩)
       exact ⟨⟨k + 1, true, T9, by omega, by go_num, rfl, hkq.next hk4 (fun y hy => .inl hy), Lib.hid ht4, HE0⟩, by simp [intOf]; omega⟩
 by_cases k2 : ek = 2
 · subst k2
   by_cases hkn : p.kn = none
   · have HE9 : Hid (∀ s, edgeX p k s = s) := Lib.hid (fun s => by rw [HEE.out, if_neg k1, if_pos rfl, if_pos hkn])
     obtain rfl := hen0 hkn
     have HE0 : Hid (roundEX p (k + 1) (T1, m1) = (Tk, mk)) := Lib.hid (by rw [HRK.out, HE9.out])
     clear HEE hek1 hek5 k1 hkn
     cases mk
     · go_wp2_with fail
       exact ⟨⟨k + 1, false, Tk, by omega, by go_num, rfl, hkq, TQ, HE0⟩, by simp [intOf]; omega⟩
     · go_wp2_with fail
       exact ⟨⟨k + 1, true, Tk, by omega, by go_num, rfl, hkq, TQ, HE0⟩, by simp [intOf]; omega⟩
   obtain rfl := hen1 hkn
   have HE9 : Hid (∀ s, edgeX p k s = enteredT p.toPb k F s) := Lib.hid (fun s => by rw [HEE.out, if_neg k1, if_pos rfl, if_neg hkn])
   clear HEE hek1 hek5 k1 hkn
   obtain ⟨T9, b9, h9⟩ : ∃ T9 b9, enteredT p.toPb k F (Tk, false) = (T9, b9) := ⟨_, _, rfl⟩
   have HE0 : Hid (roundEX p (k + 1) (T1, m1) = (T9, mk || b9)) := Lib.hid (by rw [HRK.out, HE9.out, entered_lin p.toPb k F Tk mk, h9])
   have H9 := Lib.hid h9
   clear h9
   cases mk <;> cases b9
   · go_wp2_with (go_at_call 100; refine (rentered30_any k c1 c2 c3 c4 c _ HP.out hBq HX.out TQ.out hlt).mono ?_; rw [H9.out]; rintro e w4 ⟨rfl, hk4, ht4⟩)
     exact ⟨⟨k + 1, false, T9, by omega, by go_num, rfl, hkq.next hk4 (fun y hy => .inl hy), Lib.hid ht4, HE0⟩, by simp [intOf]; omega⟩
   · go_wp2_with (go_at_call 100; refine (rentered30_any k c1 c2 c3 c4 c _ HP.out hBq HX.out TQ.out hlt).mono ?_; rw [H9.out]; rintro e w4 ⟨rfl, hk4, ht4⟩)
     exact ⟨⟨k + 1, true, T9, by omega, by go_num, rfl, hkq.next hk4 (fun y hy => .inl hy), Lib.hid ht4, HE0⟩, by simp [intOf]; omega⟩
   · go_wp2_with (go_at_call 100; refine (rentered30_any k c1 c2 c3 c4 c _ HP.out hBq HX.out TQ.out hlt).mono ?_; rw [H9.out]; rintro e w4 ⟨rfl, hk4, ht4⟩)
     exact ⟨⟨k + 1, true, T9, by omega, by go_num, rfl, hkq.next hk4 (fun y hy => .inl hy), Lib.hid ht4, HE0⟩, by simp [intOf]; omega⟩
   · go_wp2_with (go_at_call 100; refine (rentered30_any k c1 c2 c3 c4 c _ HP.out hBq HX.out TQ.out hlt).mono ?_; rw [H9.out]; rintro e w4 ⟨rfl, hk4, ht4⟩)
     exact ⟨⟨k + 1, true, T9, by omega, by go_num, rfl, hkq.next hk4 (fun y hy => .inl hy), Lib.hid ht4, HE0⟩, by simp [intOf]; omega⟩
 have HE9 : Hid (∀ s, edgeX p k s = returnedX p k n2 s) := Lib.hid (fun s => by rw [HEE.out, if_neg k1, if_neg k2])
 have z1 : (ek == 1) = false := by simp; omega
 have z2 : (ek == 5) = false := by simp; omega
 have z3 : (ek == 2) = false := by simp; omega
 clear HEE hek1 hek5 k1 k2
 obtain ⟨T9, b9, h9⟩ : ∃ T9 b9, returnedX p k n2 (Tk, false) = (T9, b9) := ⟨_, _, rfl⟩
 have HE0 : Hid (roundEX p (k + 1) (T1, m1) = (T9, mk || b9)) := Lib.hid (by rw [HRK.out, HE9.out, returnedX_lin p k n2 Tk mk, h9])
 have H9 := Lib.hid h9
 clear h9
 cases mk <;> cases b9
 · go_wp2_with (go_at_call 101; refine (rreturnedX_any k c1 c2 c3 c4 c cL _ HE.out HP.out hBq HX.out TQ.out hlt hN1).mono ?_; rw [H9.out]; rintro e w4 ⟨rfl, hk4, ht4⟩)
   exact ⟨⟨k + 1, false, T9, by omega, by go_num, rfl, hkq.next hk4 (fun y hy => .inl hy), Lib.hid ht4, HE0⟩, by simp [intOf]; omega⟩
 · go_wp2_with (go_at_call 101; refine (rreturnedX_any k c1 c2 c3 c4 c cL _ HE.out HP.out hBq HX.out TQ.out hlt hN1).mono ?_; rw [H9.out]; rintro e w4 ⟨rfl, hk4, ht4⟩)
   exact ⟨⟨k + 1, true, T9, by omega, by go_num, rfl, hkq.next hk4 (fun y hy => .inl hy), Lib.hid ht4, HE0⟩, by simp [intOf]; omega⟩
 · go_wp2_with (go_at_call 101; refine (rreturnedX_any k c1 c2 c3 c4 c cL _ HE.out HP.out hBq HX.out TQ.out hlt hN1).mono ?_; rw [H9.out]; rintro e w4 ⟨rfl, hk4, ht4⟩)
   exact ⟨⟨k + 1, true, T9, by omega, by go_num, rfl, hkq.next hk4 (fun y hy => .inl hy), Lib.hid ht4, HE0⟩, by simp [intOf]; omega⟩
 · go_wp2_with (go_at_call 101; refine (rreturnedX_any k c1 c2 c3 c4 c cL _ HE.out HP.out hBq HX.out TQ.out hlt hN1).mono ?_; rw [H9.out]; rintro e w4 ⟨rfl, hk4, ht4⟩)
   exact ⟨⟨k + 1, true, T9, by omega, by go_num, rfl, hkq.next hk4 (fun y hy => .inl hy), Lib.hid ht4, HE0⟩, by simp [intOf]; omega⟩
end Go.Proofs.YtooejoajojanjaaGreatDoor
namespace Go.Df
open Go.RowKit
namespace If
open Sp
open Classical in
/-- The pairs of the path edges at a node, in their order. -/
noncomputable def pairX (p : Px) (n : Nat) : List Pr := pairsBy (ofNats (List.range p.F.toNat)) fun a => ofNats ((List.range p.F.toNat).filter fun d => decide (PEx p a.toNat n d))
open Classical in
theorem pairX_mem {p : Px} (ho : OkX p) {n : Nat} {q : Pr} : q ∈ pairX p n ↔ ∃ a d : Nat, q = ⟨a, d⟩ ∧ PEx p a n d := by
 unfold pairX
 rw [pairsBy_mem, ofNats_mem, ofNats_mem]
 constructor
 · rintro ⟨⟨a, ha, h1⟩, d, hd, h2⟩
   rw [List.mem_filter] at hd
   refine ⟨a, d, ?_, ?_⟩
   · rw [← h1, ← h2]
   · have h3 := of_decide_eq_true hd.2
     rw [h1, Int.toNat_natCast] at h3
     exact h3
 · rintro ⟨a, d, rfl, h⟩
   have hr := h.rng ho
   refine ⟨⟨a, List.mem_range.2 (by omega), rfl⟩, d, ?_, rfl⟩
   rw [List.mem_filter]
   exact ⟨List.mem_range.2 (by omega), decide_eq_true (by simpa using h)⟩
open Classical in
theorem pairX_asc (p : Px) (n : Nat) : (pairX p n).Pairwise lexR :=
 pairsBy_asc (ofNats_asc List.pairwise_lt_range) fun _ _ => ofNats_asc (List.pairwise_lt_range.filter _)
open Classical in
/-- The facts at a node for what a key says holds at the start. -/
noncomputable def keyX (p : Px) (n : Nat) (a : Int) : List Int := if a < 0 then [] else ofNats ((List.range p.F.toNat).filter fun d => decide (PEx p a.toNat n d))
open Classical in
theorem keyX_asc (p : Px) (n : Nat) (a : Int) : (keyX p n a).Pairwise (· < ·) := by
 unfold keyX
 split
 · exact List.Pairwise.nil
 · exact ofNats_asc (List.pairwise_lt_range.filter _)
open Classical in
theorem keyX_mem {p : Px} (ho : OkX p) {n : Nat} {a y : Int} : y ∈ keyX p n a ↔ ∃ b d : Nat, a = b ∧ y = d ∧ PEx p b n d := by
 unfold keyX
 by_cases h : a < 0
 · rw [if_pos h]
   constructor
   · intro h1; simp at h1
   · rintro ⟨b, d, e, -, -⟩; omega
 · rw [if_neg h, ofNats_mem]
   constructor
   · rintro ⟨d, hd, rfl⟩
     rw [List.mem_filter] at hd
     exact ⟨a.toNat, d, by omega, rfl, of_decide_eq_true hd.2⟩
   · rintro ⟨b, d, rfl, rfl, h1⟩
     have hr := h1.rng ho
     refine ⟨d, ?_, rfl⟩
     rw [List.mem_filter]
     exact ⟨List.mem_range.2 (by omega), decide_eq_true (by simpa using h1)⟩
theorem keyX_len {p : Px} (ho : OkX p) (n : Nat) (a : Int) : (keyX p n a).length ≤ 1024 := by
 classical
 unfold keyX
 split
 · simp
 · have h1 := List.length_filter_le (fun d => decide (PEx p a.toNat n d)) (List.range p.F.toNat)
   have h2 := ho.ok.f2
   simp [ofNats] at h1 ⊢
   omega
open Classical in
theorem keyX_bits {p : Px} (ho : OkX p) {n a : Nat} {l : List Nat} (h : ∀ y, hasB l y = true ↔ PEx p a n y) : ofNats (elemsB l (l.length * 64)) = keyX p n (a : Int) := by
 unfold keyX
 rw [if_neg (by omega), Int.toNat_natCast]
 rw [elemsB_eq (F := p.F.toNat) (f := fun d => decide (PEx p a n d)) (fun x => by rw [Bool.eq_iff_iff, h x]; simp) (fun x hx => by
   have ha := of_decide_eq_true hx
   have := ha.rng ho
   omega)]
theorem pairX_keyF {p : Px} (ho : OkX p) {n : Nat} {ks : List Int} (hk : ks.Pairwise (· < ·)) (h2 : ∀ a d : Nat, PEx p a n d → (a : Int) ∈ ks) : pairsBy ks (keyX p n) = pairX p n := by
 refine lex_eq (pairsBy_asc hk (fun a _ => keyX_asc p n a)) (pairX_asc p n) fun q => ?_
 rw [pairsBy_mem, pairX_mem ho]
 constructor
 · rintro ⟨h3, h4⟩
   obtain ⟨b, d, e1, e2, h5⟩ := (keyX_mem ho).1 h4
   exact ⟨b, d, by rw [← e1, ← e2], h5⟩
 · rintro ⟨a, d, rfl, h⟩
   exact ⟨h2 a d h, (keyX_mem ho).2 ⟨a, d, rfl, rfl, h⟩⟩
theorem pairX_tab {p : Px} (ho : OkX p) {F : Nat} (hF : p.F.toNat = F) {T : Nat → Nat → Nat → Bool} (h : ∀ n a d, T n a d = true ↔ PEx p a n d) (n : Nat) : tabQ F T n F = pairX p n := by
 refine lex_eq (tabQ_asc F T n F) (pairX_asc p n) fun q => ?_
 rw [tabQ_mem, pairX_mem ho]
 constructor
 · rintro ⟨b, d, _, _, rfl, h1⟩
   exact ⟨b, d, rfl, (h n b d).1 h1⟩
 · rintro ⟨b, d, rfl, h1⟩
   have hr := h1.rng ho
   exact ⟨b, d, by omega, by omega, rfl, (h n b d).2 h1⟩
theorem pairX_len {p : Px} (ho : OkX p) {F : Nat} (hF : p.F.toNat = F) (n : Nat) : (pairX p n).length ≤ F * F := by
 classical
 rw [← pairX_tab ho hF (T := fun n a d => decide (PEx p a n d)) (fun n a d => by simp) n]
 exact tabQ_len F _ n F
end If
end Go.Df
namespace Go.Df
open Go.RowKit
namespace Sp
open If
theorem kindAt_at {ns : List Nd} {f k : Int} (h : 0 ≤ kindAt ns f k) : (kindAt ns f k).toNat < ns.length ∧ (gn ns (kindAt ns f k).toNat).f = f ∧ (gn ns (kindAt ns f k).toNat).k = k := by
 unfold kindAt at h ⊢
 cases hh : ns.findIdx? (fun n => n.f == f && n.k == k) with
 | none => rw [hh] at h; simp at h
 | some i =>
   obtain ⟨h1, h2, -⟩ := List.findIdx?_eq_some_iff_getElem.1 hh
   have e : gn ns i = ns[i] := by simp [gn, h1]
   simp only [Bool.and_eq_true, beq_iff_eq] at h2
   show (i : Int).toNat < _ ∧ _
   rw [Int.toNat_natCast, e]
   exact ⟨h1, h2.1, h2.2⟩
theorem kindAt_in {ns : List Nd} {m : Int} (h : nodesErr ns m = 0) {x : Nat} (hx : x < ns.length) : 0 ≤ kindAt ns (gn ns x).f 3 ∧ 0 ≤ kindAt ns (gn ns x).f 4 := by
 unfold nodesErr at h
 split at h
 · rename_i h0; exact absurd h h0
 · split at h
   · rename_i h1; exact absurd h h1
   · rename_i h1
     have h2 := fe_zero _ _ (Decidable.byContradiction h1) x (Nat.zero_le _) (by omega)
     unfold wholeErr at h2
     split at h2
     · cases h2
     · rename_i h3; omega
theorem kindAt_is {ns : List Nd} (h : NdOk ns) {i : Nat} (hi : i < ns.length) (hk : (gn ns i).k ≠ 2) : kindAt ns (gn ns i).f (gn ns i).k = i := by
 refine kind_hit (fun j hj => ?_) hi (by simp)
 rw [Bool.eq_false_iff]
 intro h1
 simp only [Bool.and_eq_true, beq_iff_eq] at h1
 have h2 := node_asc h.err i j hj hi
 unfold lessN at h2
 rw [if_neg (by rw [h1.1]; simp), if_neg (by rw [h1.2]; simp)] at h2
 have h3 := of_decide_eq_true h2
 rw [node_i (h.err i hi) hk, node_i (h.err j (by omega)) (by rw [h1.2]; exact hk)] at h3
 omega
def startsI (ns : List Nd) (i : Nat) : List Nat := (List.range i).filter fun j => (gn ns j).k == 1
theorem startsI_succ (ns : List Nd) (i : Nat) : startsI ns (i + 1) = startsI ns i ++ (if (gn ns i).k = 1 then [i] else []) := by
 unfold startsI
 rw [List.range_succ, List.filter_append]
 congr 1
 by_cases h : (gn ns i).k = 1
 · simp [h]
 · simp [h]
theorem startsI_mem {ns : List Nd} {i j : Nat} : j ∈ startsI ns i ↔ j < i ∧ (gn ns j).k = 1 := by simp [startsI]
theorem startsI_len (ns : List Nd) (i : Nat) : (startsI ns i).length ≤ i := by
 unfold startsI
 refine Nat.le_trans (List.length_filter_le _ _) ?_
 simp
theorem startsI_last {ns : List Nd} (h : NdOk ns) {i : Nat} (hi : i < ns.length) (hk : (gn ns i).k ≠ 1) : stOf ns i < i ∧ startsI ns i = startsI ns (stOf ns i) ++ [stOf ns i] := by
 have h1 := h.start hi
 have h2 := stOf_le ns i
 have h3 : stOf ns i < i := by
   rcases Nat.lt_or_ge (stOf ns i) i with h4 | h4
   · exact h4
   · have e : stOf ns i = i := by omega
     rw [e] at h1
     exact absurd h1.2 hk
 refine ⟨h3, ?_⟩
 have key : ∀ m, stOf ns i < m → m ≤ i → startsI ns m = startsI ns (stOf ns i) ++ [stOf ns i] := fun m => by
   induction m with
   | zero => intro h; omega
   | succ m ih =>
     intro h4 h5
     rw [startsI_succ]
     by_cases e : m = stOf ns i
     · rw [e, if_pos h1.2]
     · rw [if_neg (fun h6 => by have := (stOf_hit (i := i) (j := m) (by omega) h6).1; omega), List.append_nil]
       exact ih (by omega) (by omega)
 exact key i h3 (Nat.le_refl _)
end Sp
namespace If
open Sp
noncomputable def sumP (p : Px) (i j : Nat) : Su :=
 ⟨(gn p.ns j).f, if kindAt p.ns (gn p.ns j).f 3 < i then pairX p (kindAt p.ns (gn p.ns j).f 3).toNat else [], if kindAt p.ns (gn p.ns j).f 4 < i then pairX p (kindAt p.ns (gn p.ns j).f 4).toNat else []⟩
noncomputable def prI (p : Px) (i : Nat) : List Su := (startsI p.ns i).map (sumP p i)
noncomputable def sumF (p : Px) (j : Nat) : Su := ⟨(gn p.ns j).f, pairX p (kindAt p.ns (gn p.ns j).f 3).toNat, pairX p (kindAt p.ns (gn p.ns j).f 4).toNat⟩
noncomputable def fulI (p : Px) (i : Nat) : List Su := (startsI p.ns i).map (sumF p)
theorem fulI_yes {p : Px} {i : Nat} (h : (gn p.ns i).k = 1) : fulI p (i + 1) = fulI p i ++ [sumF p i] := by
 unfold fulI
 rw [startsI_succ, if_pos h, List.map_append]
 rfl
theorem fulI_no {p : Px} {i : Nat} (h : (gn p.ns i).k ≠ 1) : fulI p (i + 1) = fulI p i := by
 unfold fulI
 rw [startsI_succ, if_neg h, List.append_nil]
theorem fulI_len (p : Px) (i : Nat) : (fulI p i).length ≤ i := by
 unfold fulI
 rw [List.length_map]
 exact startsI_len _ _
theorem prI_len (p : Px) (i : Nat) : (prI p i).length ≤ i := by
 unfold prI
 rw [List.length_map]
 exact startsI_len _ _
theorem sumP_same {p : Px} {i j : Nat} (h3 : kindAt p.ns (gn p.ns j).f 3 ≠ i) (h4 : kindAt p.ns (gn p.ns j).f 4 ≠ i) : sumP p (i + 1) j = sumP p i j := by
 unfold sumP
 have e3 : (kindAt p.ns (gn p.ns j).f 3 < ((i + 1 : Nat) : Int)) ↔ kindAt p.ns (gn p.ns j).f 3 < (i : Int) := by omega
 have e4 : (kindAt p.ns (gn p.ns j).f 4 < ((i + 1 : Nat) : Int)) ↔ kindAt p.ns (gn p.ns j).f 4 < (i : Int) := by omega
 simp only [e3, e4]
theorem kind_node {p : Px} {i j : Nat} {k : Int} (hk : kindAt p.ns (gn p.ns j).f k = i) : i < p.ns.length ∧ (gn p.ns i).f = (gn p.ns j).f ∧ (gn p.ns i).k = k := by
 have h1 := kindAt_at (ns := p.ns) (f := (gn p.ns j).f) (k := k) (by omega)
 have e : (kindAt p.ns (gn p.ns j).f k).toNat = i := by omega
 rw [e] at h1
 exact h1
theorem prI_else {p : Px} {i : Nat} (h3 : (gn p.ns i).k ≠ 3) (h4 : (gn p.ns i).k ≠ 4) (h1 : (gn p.ns i).k ≠ 1) : prI p (i + 1) = prI p i := by
 unfold prI
 rw [startsI_succ, if_neg h1, List.append_nil]
 refine List.map_congr_left fun j hj => sumP_same (fun h => ?_) (fun h => ?_)
 · exact h3 (kind_node h).2.2
 · exact h4 (kind_node h).2.2
section
variable {p : Px} (ho : OkX p)
include ho
theorem prI_start {i : Nat} (hi : i < p.ns.length) (hk : (gn p.ns i).k = 1) : prI p (i + 1) = prI p i ++ [⟨(gn p.ns i).f, [], []⟩] := by
 unfold prI
 rw [startsI_succ, if_pos hk, List.map_append]
 congr 1
 · refine List.map_congr_left fun j hj => sumP_same (fun h => ?_) (fun h => ?_)
   · have := (kind_node h).2.2; omega
   · have := (kind_node h).2.2; omega
 · show [sumP p (i + 1) i] = _
   have hw := kindAt_in (sup_parts ho.ok.sup).2.2.1 hi
   have hle : ∀ k : Int, k ≠ 1 → 0 ≤ kindAt p.ns (gn p.ns i).f k → ¬ kindAt p.ns (gn p.ns i).f k < ((i + 1 : Nat) : Int) := fun k h1 h2 h3 => by
     obtain ⟨h4, h5, h6⟩ := kindAt_at h2
     have h7 := ho.ok.nd.ahead hi h4 h5.symm hk
     have h8 : (kindAt p.ns (gn p.ns i).f k).toNat = i := by omega
     rw [h8] at h6
     omega
   unfold sumP
   rw [if_neg (hle 3 (by decide) hw.1), if_neg (hle 4 (by decide) hw.2)]
def kOf : Bool → Int
 | false => 3
 | true => 4
theorem prI_end {i : Nat} (hi : i < p.ns.length) (b : Bool) (hk : (gn p.ns i).k = kOf b) : 0 < (prI p i).length ∧ prI p (i + 1) = (prI p i).dropLast ++ [updB (gS (prI p i) ((prI p i).length - 1)) (pairX p i) b] := by
 have hk1 : (gn p.ns i).k ≠ 1 := by rw [hk]; cases b <;> decide
 have hk2 : (gn p.ns i).k ≠ 2 := by rw [hk]; cases b <;> decide
 obtain ⟨h1, h2⟩ := startsI_last ho.ok.nd hi hk1
 have h3 := ho.ok.nd.start hi
 have e0 : prI p i = (startsI p.ns (stOf p.ns i)).map (sumP p i) ++ [sumP p i (stOf p.ns i)] := by
   unfold prI
   rw [h2, List.map_append]
   rfl
 have e1 : prI p (i + 1) = (startsI p.ns (stOf p.ns i)).map (sumP p (i + 1)) ++ [sumP p (i + 1) (stOf p.ns i)] := by
   unfold prI
   rw [startsI_succ, if_neg hk1, List.append_nil, h2, List.map_append]
   rfl
 have hmap : (startsI p.ns (stOf p.ns i)).map (sumP p (i + 1)) = (startsI p.ns (stOf p.ns i)).map (sumP p i) := by
   refine List.map_congr_left fun j hj => ?_
   obtain ⟨h4, h5⟩ := startsI_mem.1 hj
   have hne : ∀ k : Int, kindAt p.ns (gn p.ns j).f k ≠ i := fun k h => by
     have h6 := (kind_node h).2.1
     have h7 := ho.ok.nd.ahead (j := j) (x := stOf p.ns i) (by omega) (by omega) (by rw [h3.1, h6]) h5
     have h8 := ho.ok.nd.ahead (j := stOf p.ns i) (x := j) (by omega) (by omega) (by rw [h3.1, h6]) h3.2
     omega
   exact sumP_same (hne 3) (hne 4)
 have hkk := kindAt_is ho.ok.nd hi hk2
 have hw := kindAt_in (sup_parts ho.ok.sup).2.2.1 hi
 have hlast : sumP p (i + 1) (stOf p.ns i) = updB (sumP p i (stOf p.ns i)) (pairX p i) b := by
   unfold sumP
   rw [h3.1]
   cases b with
   | false =>
     have e3 : kindAt p.ns (gn p.ns i).f 3 = i := by rw [show (3 : Int) = (gn p.ns i).k by rw [hk]; rfl]; exact hkk
     have e4 : kindAt p.ns (gn p.ns i).f 4 ≠ i := fun h => by have := (kind_node h).2.2; rw [hk] at this; exact absurd this (by decide)
     have e5 : (kindAt p.ns (gn p.ns i).f 4 < ((i + 1 : Nat) : Int)) ↔ kindAt p.ns (gn p.ns i).f 4 < (i : Int) := by omega
     simp only [updB, e5]
     rw [if_pos (by omega), e3, Int.toNat_natCast]
   | true =>
     have e3 : kindAt p.ns (gn p.ns i).f 4 = i := by rw [show (4 : Int) = (gn p.ns i).k by rw [hk]; rfl]; exact hkk
     have e4 : kindAt p.ns (gn p.ns i).f 3 ≠ i := fun h => by have := (kind_node h).2.2; rw [hk] at this; exact absurd this (by decide)
     have e5 : (kindAt p.ns (gn p.ns i).f 3 < ((i + 1 : Nat) : Int)) ↔ kindAt p.ns (gn p.ns i).f 3 < (i : Int) := by omega
     simp only [updB, e5]
     rw [if_pos (show kindAt p.ns (gn p.ns i).f 4 < ((i + 1 : Nat) : Int) by omega), e3, Int.toNat_natCast]
 have hg : gS (prI p i) ((prI p i).length - 1) = sumP p i (stOf p.ns i) := by
   rw [e0]
   unfold gS
   rw [List.getD_eq_getElem?_getD, List.length_append, List.length_singleton, Nat.add_sub_cancel, List.getElem?_append_right (Nat.le_refl _), Nat.sub_self]
   rfl
 refine ⟨by rw [e0]; simp, ?_⟩
 rw [hg, e1, hmap, hlast]
 congr 1
 rw [e0, List.dropLast_concat]
theorem prI_all : prI p p.ns.length = fulI p p.ns.length := by
 unfold prI fulI
 refine List.map_congr_left fun j hj => ?_
 obtain ⟨h1, -⟩ := startsI_mem.1 hj
 have hw := kindAt_in (sup_parts ho.ok.sup).2.2.1 h1
 have a3 := kindAt_at hw.1
 have a4 := kindAt_at hw.2
 unfold sumP sumF
 rw [if_pos (by omega), if_pos (by omega)]
theorem fulI_pairs {i : Nat} : ∀ u ∈ fulI p i, u.x.length ≤ p.F.toNat * p.F.toNat ∧ u.y.length ≤ p.F.toNat * p.F.toNat := fun u hu => by
 obtain ⟨j, -, rfl⟩ := List.mem_map.1 hu
 exact ⟨pairX_len ho rfl _, pairX_len ho rfl _⟩
end
end If
end Go.Df
namespace Go.Df
open Go.RowKit
namespace If
open Sp
def iniI (ns : List Nd) (F i : Nat) : List (Nat × Nat) := (startsI ns i).flatMap fun n => (List.range F).map fun a => (n, a)
theorem iniI_yes {ns : List Nd} {F i : Nat} (h : (gn ns i).k = 1) : iniI ns F (i + 1) = iniI ns F i ++ (List.range F).map fun a => (i, a) := by
 unfold iniI
 rw [startsI_succ, if_pos h, List.flatMap_append]
 simp
theorem iniI_no {ns : List Nd} {F i : Nat} (h : (gn ns i).k ≠ 1) : iniI ns F (i + 1) = iniI ns F i := by
 unfold iniI
 rw [startsI_succ, if_neg h, List.append_nil]
theorem iniI_mem {ns : List Nd} {F i : Nat} {x : Nat × Nat} : x ∈ iniI ns F i ↔ x.1 < i ∧ (gn ns x.1).k = 1 ∧ x.2 < F := by
 unfold iniI
 rw [List.mem_flatMap]
 constructor
 · rintro ⟨n, hn, h⟩
   obtain ⟨a, ha, rfl⟩ := List.mem_map.1 h
   exact ⟨(startsI_mem.1 hn).1, (startsI_mem.1 hn).2, List.mem_range.1 ha⟩
 · rintro ⟨h1, h2, h3⟩
   exact ⟨x.1, startsI_mem.2 ⟨h1, h2⟩, List.mem_map.2 ⟨x.2, List.mem_range.2 h3, rfl⟩⟩
theorem initS_snoc (l : List (Nat × Nat)) (x : Nat × Nat) (s : St) : initS (l ++ [x]) s = (initS l s).add x.1 x.2 x.2 := by
 unfold initS
 rw [List.foldl_append]
 rfl
theorem gS_mem7 {L : List Su} {i : Nat} (h : i < L.length) : gS L i ∈ L := by
 have e : gS L i = L[i] := by simp [gS, h]
 rw [e]
 exact List.getElem_mem h
theorem noSt_wf (p : Pb) : Wf p noSt := ⟨by simp [noSt], by simp [noSt], by simp [noSt], by simp [noSt], by simp [noSt], by simp [noSt]⟩
theorem initS_wf {p : Px} (ho : OkX p) {l : List (Nat × Nat)} (hl : ∀ x ∈ l, x ∈ p.ini) : Wf p.toPb (initS l noSt) :=
 (initS_inv ho l hl (noSt_wf _) ⟨by simp [noSt], by simp [noSt]⟩ (by simp [noSt]) (by simp [noSt])).1
end If
end Go.Df
namespace Go.Proofs.YtooejoajojanjaaGreatDoor
open Go.RowKit Go.Df Go.Df.If
def GetFul (w : World) (L : List Su) (er : Int) (e : Ending) (w' : World) : Prop := ∃ A n c, e = .returned (.tuple #[.slice A n c, .int .i64 er]) ∧ n ≤ 9223372036854775807 ∧ SmW w' A n L ∧ Below w.heap.size w w'
end Go.Proofs.YtooejoajojanjaaGreatDoor
namespace Go.Df
open Go.RowKit
theorem new2T (w : World) (b : Nat) (u v : Value) (t : TypeId) (hb : b = w.heap.size) : Rd (w.alloc (.cells #[u, v] t)) 2 (some ⟨b, 0, none⟩) 1 [u, v] := by
 subst hb
 refine ⟨rfl, fun _ => ⟨_, _, rfl, by simp, fun j _ => ?_⟩⟩
 rw [World.cell?_alloc_new, Nat.zero_add]; simp
namespace If
def prcells (l : List Pr) : List Value := l.flatMap fun x => [.int .i64 x.i, .int .i64 x.o]
theorem prcells_snoc (l : List Pr) (x : Pr) : prcells l ++ [.int .i64 x.i, .int .i64 x.o] = prcells (l ++ [x]) := by simp [prcells]
theorem prcells_at : ∀ (l : List Pr) {i : Nat} (_ : i < l.length), (prcells l)[i * 2]? = some (.int .i64 (gp l i).i) ∧ (prcells l)[i * 2 + 1]? = some (.int .i64 (gp l i).o)
 | x :: l, 0, _ => by simp [prcells, gp]
 | x :: l, i + 1, h => by
   have h1 := prcells_at l (i := i) (by simpa using h)
   have e : prcells (x :: l) = [.int .i64 x.i, .int .i64 x.o] ++ prcells l := rfl
   have e2 : gp (x :: l) (i + 1) = gp l i := by simp [gp]
   rw [e, e2]
   refine ⟨?_, ?_⟩
   · rw [List.getElem?_append_right (by simp; omega), show (i + 1) * 2 - [Value.int .i64 x.i, .int .i64 x.o].length = i * 2 by simp; omega]; exact h1.1
   · rw [List.getElem?_append_right (by simp; omega), show (i + 1) * 2 + 1 - [Value.int .i64 x.i, .int .i64 x.o].length = i * 2 + 1 by simp; omega]; exact h1.2
theorem Prs.own {w : World} {base : Nat} {e : TypeId} {A : Option Addr} {n c : Nat} {l : List Pr} (h : w.ownsRow base e 2 (.slice A n c) n (prcells l)) (hl : l.length = n) : Prs w A n l ∧ n ≤ c := by
 by_cases h0 : 0 < n
 · obtain ⟨g, c', hv, hb, hg, hc, -, hcell, -⟩ := own_cellsT h h0
   injection hv with e1 e2 e3
   subst e1
   subst e3
   exact ⟨⟨hl, fun _ => ⟨g, 0, rfl, hg, fun i hi => by
     obtain ⟨h1, h2⟩ := prcells_at l (i := i) (by omega)
     rw [Nat.zero_add, hcell _ (by omega), hcell _ (by omega)]
     exact ⟨h1, h2⟩⟩⟩, hc⟩
 · exact ⟨⟨hl, fun h => absurd h h0⟩, by omega⟩
end If
end Go.Df
namespace Go.Proofs.YtooejoajojanjaaGreatDoor
open Go.RowKit Go.Df Go.Df.If
theorem pairi_info : (Tryz.prog.info? 72).map (fun i => (i.zero, i.size, i.bytes)) = some (some (.agg #[.int .i64 0, .int .i64 0]), 2, 16) := by kernel_rfl
end Go.Proofs.YtooejoajojanjaaGreatDoor
namespace Go.Df
open Go.RowKit
namespace If
open Sp
theorem set_apartN {w : World} {b o b' o' : Nat} {u u' v : Value} (h : w.cell? ⟨b, o, none⟩ = some u) (h' : w.cell? ⟨b', o', none⟩ = some u') (hn : u ≠ u') : (w.setCell ⟨b, o, none⟩ v).cell? ⟨b', o', none⟩ = some u' := by
 rw [set_other, h']
 by_cases e : b = b'
 · by_cases e2 : o = o'
   · subst e e2
     rw [h] at h'
     exact absurd (Option.some.inj h') hn
   · exact .inr e2
 · exact .inl e
theorem prs_apart {w : World} {b o : Nat} {u v : Value} {A : Option Addr} {n : Nat} {l : List Pr} (h : w.cell? ⟨b, o, none⟩ = some u) (hn : ∀ x, u ≠ .int .i64 x) (hi : Prs w A n l) : Prs (w.setCell ⟨b, o, none⟩ v) A n l :=
 ⟨hi.1, fun h0 => by
   obtain ⟨b', o', e, hl, hc⟩ := hi.2 h0
   exact ⟨b', o', e, by simpa [World.setCell] using hl, fun i hi2 => ⟨set_apartN h (hc i hi2).1 (hn _), set_apartN h (hc i hi2).2 (hn _)⟩⟩⟩
structure PrM (w : World) (g N i : Nat) (f : Nat → List Pr) : Prop where
 l : g < w.heap.size
 c : ∀ x, x < N → ∃ A m c, w.cell? ⟨g, x, none⟩ = some (.slice A m c) ∧ m ≤ c ∧ Prs w A m (if x < i then f x else [])
 fr : ∀ x, w.frozen? ⟨g, x, none⟩ = false
section
variable {w w1 : World} {g N i : Nat} {f : Nat → List Pr}
theorem PrM.kept (h : PrM w g N i f) (hk : Kept [] w w1) : PrM w1 g N i f :=
 ⟨Nat.lt_of_lt_of_le h.l hk.size, fun x hx => by
   obtain ⟨A, m, c, h1, h2, h3⟩ := h.c x hx
   exact ⟨A, m, c, (hk.cell g x h.l (by simp)).trans h1, h2, h3.later hk.toBelow⟩, fun x => (hk.frozen g x h.l (by simp)).trans (h.fr x)⟩
theorem PrM.set (h : PrM w g N i f) (hi : i < N) {A : Option Addr} {m c : Nat} (hA : Prs w A m (f i)) (hm : m ≤ c) : PrM (w.setCell ⟨g, i, none⟩ (.slice A m c)) g N (i + 1) f := by
 obtain ⟨A0, m0, c0, h0, -, -⟩ := h.c i hi
 refine ⟨by simpa [World.setCell] using h.l, fun x hx => ?_, fun x => by simpa using h.fr x⟩
 by_cases e : x = i
 · subst e
   exact ⟨A, m, c, set_same h0, hm, by rw [if_pos (by omega)]; exact prs_apart h0 (by simp) hA⟩
 · obtain ⟨Ax, mx, cx, h1, h2, h3⟩ := h.c x hx
   refine ⟨Ax, mx, cx, by rw [set_other (.inr (fun e2 => e e2.symm))]; exact h1, h2, ?_⟩
   have e9 : (if x < i + 1 then f x else []) = (if x < i then f x else []) := by
     by_cases e2 : x < i
     · rw [if_pos e2, if_pos (by omega)]
     · rw [if_neg e2, if_neg (by omega)]
   rw [e9]
   exact prs_apart h0 (by simp) h3
theorem PrM.start {MR : Array Value} {t : TypeId} (h : w.heap[g]? = some (.cells MR t (0, 0))) (hM : ∀ i, i < N → MR[i]? = some (.slice none 0 0)) : PrM w g N 0 f :=
 ⟨(Array.getElem?_eq_some_iff.1 h).1, fun x hx => ⟨none, 0, 0, by simp [World.cell?, h, hM x hx], Nat.le_refl _, by rw [if_neg (by omega)]; exact ⟨rfl, fun h0 => absurd h0 (by omega)⟩⟩, fun x => by simp [World.frozen?, h]⟩
end
end If
end Go.Df
namespace Go.Proofs.YtooejoajojanjaaGreatDoor
open Go.RowKit Go.Df Go.Df.If
attribute [local go_sem ↓] Go.wp_at_zero Go.wp_at_succ
variable {p : Pb} {N F mN : Nat} {A1 A2 A3 A4 : Option Addr} {n2 n3 n4 : Nat} {X : List Nat} {bs : Nat → Nat} {r : Nat} {w0 w : World} {T : Nat → Nat → Nat → Bool}
end Go.Proofs.YtooejoajojanjaaGreatDoor
namespace Go.Proofs.YtooejoajojanjaaGreatDoor
open Go.RowKit Go.Df Go.Df.If
attribute [local go_sem ↓] Go.wp_at_zero Go.wp_at_succ
variable {p : Pb} {N F mN : Nat} {A1 A2 A3 A4 : Option Addr} {n2 n3 n4 : Nat} {X : List Nat} {bs : Nat → Nat} {r : Nat} {w0 w : World} {T : Nat → Nat → Nat → Bool}
def truthOf : Value → Nat | .bool true => 1 | _ => 0
end Go.Proofs.YtooejoajojanjaaGreatDoor
namespace Go.Df
open Go.RowKit
namespace If
def RwP (base : Nat) (ti : TypeId) (R : Nat → Option Addr × Nat × Nat) (L : Nat → List Pr) (n : Nat) (w : World) : Prop :=
 ∀ x, x < n → Prs w (R x).1 (R x).2.1 (L x) ∧ (R x).2.1 ≤ (R x).2.2 ∧ ∀ a, (R x).1 = some a → base ≤ a.block ∧ Tag w a.block ti
theorem prs_keptT {X : List Nat} {w w' : World} {A : Option Addr} {m : Nat} {l : List Pr} (h : Prs w A m l) (hk : Kept X w w') (hA : ∀ a, A = some a → a.block ∉ X) : Prs w' A m l :=
 ⟨h.1, fun hn => by
   obtain ⟨b, o, e, hl, hc⟩ := h.2 hn
   exact ⟨b, o, e, Nat.lt_of_lt_of_le hl hk.size, fun i hi => ⟨(hk.cell b _ hl (hA _ e)).trans (hc i hi).1, (hk.cell b _ hl (hA _ e)).trans (hc i hi).2⟩⟩⟩
theorem RwP.kept {base : Nat} {ti : TypeId} {R : Nat → Option Addr × Nat × Nat} {L : Nat → List Pr} {n : Nat} {X : List Nat} {w w' : World} (h : RwP base ti R L n w) (hk : Kept X w w') (hX : ∀ b, Tag w b ti → base ≤ b → b ∉ X) : RwP base ti R L n w' := fun x hx => by
 obtain ⟨h1, h2, h3⟩ := h x hx
 exact ⟨prs_keptT h1 hk (fun a ha => hX _ (h3 a ha).2 (h3 a ha).1), h2, fun a ha => ⟨(h3 a ha).1, (h3 a ha).2.same (hk.block _ (h3 a ha).2.lt (hX _ (h3 a ha).2 (h3 a ha).1))⟩⟩
def updP (f : Nat → Option Addr × Nat × Nat) (n : Nat) (x : Option Addr × Nat × Nat) : Nat → Option Addr × Nat × Nat := fun i => if i = n then x else f i
theorem RwP.snoc {base : Nat} {ti : TypeId} {R : Nat → Option Addr × Nat × Nat} {L : Nat → List Pr} {n : Nat} {w : World} (h : RwP base ti R L n w) {A : Option Addr} {m c : Nat} (hA : Prs w A m (L n)) (hm : m ≤ c) (ha : ∀ a, A = some a → base ≤ a.block ∧ Tag w a.block ti) : RwP base ti (updP R n (A, m, c)) L (n + 1) w := fun x hx => by
 unfold updP
 by_cases e : x = n
 · subst e; rw [if_pos rfl]; exact ⟨hA, hm, ha⟩
 · rw [if_neg e]; exact h x (by omega)
end If
end Go.Df
namespace Go.Proofs.YtooejoajojanjaaGreatDoor
open Go.RowKit Go.Df Go.Df.If
attribute [local go_sem ↓] Go.wp_at_zero Go.wp_at_succ
set_option maxRecDepth 100000 in
set_option maxHeartbeats 4000000 in
theorem rpairsat_any {N F : Nat} {X : List Nat} {bs : Nat → Nat} {r : Nat} {T : Nat → Nat → Nat → Bool} (c n : Nat) (w : World) (hT : TabM N F X bs r w T) (hN8 : N ≤ 8192) (hF8 : F ≤ 1024) (hn : n < N) :
   Calls Tryz.prog 65 #[tabV N F r c, .int .i64 n] w fun e w' => ∃ A k cc, e = .returned (.slice A k cc) ∧ k ≤ cc ∧ Prs w' A k (tabQ F T n F) ∧ (∀ a, A = some a → w.heap.size ≤ a.block ∧ Tag w' a.block 72) ∧ Below w.heap.size w w' := by
 obtain ⟨i0, hinf0, hz0, hz1, hz2⟩ := info_parts pairi_info
 have HT := Lib.hid hT
 have hrl := hT.rl
 have hFF : F * F ≤ 1048576 := Nat.le_trans (Nat.mul_le_mul hF8 hF8) (by decide)
 clear hT
 go_enter Tryz.func65, Tryz.ntmps65
 go_upto_region 1 with fail
 refine wp_named (fun W => ∃ b0, w.heap.size = b0 ∧ Blk W b0 [.int .i64 (F : Nat), .slice (some ⟨r, 0, none⟩) N c] ∧ Below w.heap.size w W) ⟨_, rfl, ?_, ?_⟩ ?_
 · exact kbn
 · go_grown
 rintro W ⟨b0, e0, B0, hB⟩
 rw [e0]
 have G0 : w.heap.size ≤ b0 := by omega
 clear e0
 have ⟨L0, C0, F0⟩ := B0
 have hkW : Kept [] w W := (Kept.refl _ _).call hB
 have TW := Lib.hid (HT.out.kept0 hkW)
 have hwW := hkW.size
 go_wp2_with fail
 go_loopw [5, 6] (fun s5 s6 wr => ∃ (a : Nat) (A : Option Addr) (k cA : Nat), a ≤ F ∧ s6 = .int .i64 a ∧ s5 = .slice A k cA ∧ Kept [] W wr ∧ Hid ((tabQ F T n a).length = k) ∧ Hid (wr.ownsRow W.heap.size 72 2 (.slice A k cA) k (prcells (tabQ F T n a)))) (fun _ s6 _ => F - (intOf s6).toNat)
 case atStart => exact ⟨0, none, 0, 0, Nat.zero_le _, rfl, rfl, Kept.refl _ _, Lib.hid rfl, Lib.hid (World.ownsRow_nil _ _ _ _)⟩
 case round =>
 clear C0 F0
 obtain ⟨a, A, k, cA, ha, rfl, rfl, hkr, HK, OWN⟩ := hrel
 have B0r := hkr.blk (by simp) B0
 have ⟨L0r, C0r, F0r⟩ := B0r
 by_cases hlt : a < F
 case neg =>
   obtain rfl : a = F := by omega
   clear hlt
   go_wp2_with fail
   go_ret
   obtain ⟨h1, h2⟩ := Prs.own OWN.out HK.out
   exact ⟨A, k, cA, rfl, h2, h1, fun a ha => ⟨by have := (own_addr OWN.out ha).1; omega, (own_addr OWN.out ha).2.1⟩, (keptTrans hkW hkr).toBelow⟩
 have ha9 : (a : Int) < (F : Int) := by omega
 have hQL := tabQ_len F T n a
 rw [HK.out] at hQL
 have hQ2 : k + F ≤ F * F := by have h9 := Nat.mul_le_mul_right F (show a + 1 ≤ F from hlt); rw [Nat.succ_mul] at h9; omega
 clear hQL
 go_wp2_with fail
 go_loopw [5, 7] (fun s5 s7 wz => ∃ (d : Nat) (A' : Option Addr) (k' cA' : Nat), d ≤ F ∧ s7 = .int .i64 d ∧ s5 = .slice A' k' cA' ∧ Kept [] W wz ∧ Hid ((tabQ F T n a ++ tabP T n a d).length = k') ∧ Hid (wz.ownsRow W.heap.size 72 2 (.slice A' k' cA') k' (prcells (tabQ F T n a ++ tabP T n a d)))) (fun _ s7 _ => F - (intOf s7).toNat)
 case atStart => exact ⟨0, A, k, cA, Nat.zero_le _, rfl, rfl, hkr, Lib.hid (by rw [tabP_zero, List.append_nil]; exact HK.out), Lib.hid (by rw [tabP_zero, List.append_nil]; exact OWN.out)⟩
 case round =>
 clear C0r F0r
 rename World => wz
 obtain ⟨d, A', k', cA', hd, rfl, rfl, hkz, HK', OWZ⟩ := hrel
 have B0z := hkz.blk (by simp) B0
 have ⟨L0z, C0z, F0z⟩ := B0z
 by_cases hltd : d < F
 case neg =>
   obtain rfl : d = F := by omega
   have HSQ : Hid (tabQ d T n (a + 1) = tabQ d T n a ++ tabP T n a d) := Lib.hid (tabQ_succ d T n a)
   clear hltd
   go_wp2_with fail
   exact ⟨⟨a + 1, A', k', cA', by omega, by go_num, rfl, hkz, by rw [HSQ.out]; exact HK', by rw [HSQ.out]; exact OWZ⟩, by simp [intOf]; omega⟩
 have hd9 : (d : Int) < (F : Int) := by omega
 obtain ⟨v, hv⟩ : ∃ v, T n a d = v := ⟨_, rfl⟩
 have HV := Lib.hid hv
 have HSP : Hid (tabP T n a (d + 1) = tabP T n a d ++ (if v = true then [⟨(a : Int), (d : Int)⟩] else [])) := Lib.hid (by rw [tabP_succ, hv])
 have hk9 : k' + 1 ≤ 1048576 := by
   have h1 := HK'.out
   rw [List.length_append, HK.out] at h1
   have := tabP_len T n a d
   omega
 have TZ := Lib.hid (TW.out.kept0 hkz)
 clear hv
 cases v with
 | false =>
   have HSP2 : Hid (tabP T n a (d + 1) = tabP T n a d) := Lib.hid (by rw [HSP.out]; simp)
   go_wp2_with (go_at_call 64; refine (rtHas_is c a n d false _ TZ.out hN8 hF8 hn hlt hltd HV.out).mono ?_; rintro e w6 ⟨rfl, hb6⟩)
   have hk6 : Kept [] wz w6 := (Kept.refl _ _).call hb6
   exact ⟨⟨d + 1, A', k', cA', by omega, by go_num, rfl, hkz.call hb6, by rw [HSP2.out]; exact HK', by rw [HSP2.out]; exact Lib.hid (own_keptT (X := []) OWZ.out hk6 (by simp))⟩, by simp [intOf]; omega⟩
 | true =>
   have HSP2 : Hid (tabP T n a (d + 1) = tabP T n a d ++ [⟨(a : Int), (d : Int)⟩]) := Lib.hid (by rw [HSP.out]; simp)
   have HAP : Hid (prcells (tabQ F T n a ++ tabP T n a d) ++ [.int .i64 (a : Int), .int .i64 (d : Int)] = prcells (tabQ F T n a ++ tabP T n a (d + 1))) := Lib.hid (by
     rw [HSP2.out, ← List.append_assoc]
     exact prcells_snoc _ ⟨(a : Int), (d : Int)⟩)
   go_wp2_with (first
     | (go_at_call 64; refine (rtHas_is c a n d true _ TZ.out hN8 hF8 hn hlt hltd HV.out).mono ?_; rintro e w6 ⟨rfl, hb6⟩; have hk6 : Kept [] wz w6 := (Kept.refl _ _).call hb6; have hk06 := Lib.hid (hkz.call hb6); have OW6 := Lib.hid (own_keptT (X := []) OWZ.out hk6 (by simp)); have hs06 := hk06.out.size)
     | (at_builtin; refine wpList_append_rd _ rfl _ _ 28 rfl W.heap.size 72 i0 (.agg #[.int .i64 0, .int .i64 0]) 2 16 Tryz.underlying28 hinf0 hz0 hz1 hz2 rfl (by decide) (.slice A' k' cA') k' _ rfl (own_keptT (X := []) OW6.out ((Kept.refl _ _).alloc _) (by simp)) (some ⟨w6.heap.size, 0, none⟩) 1 1 [.int .i64 (a : Int), .int .i64 (d : Int)] rfl (new2T _ _ _ _ _ rfl) (fun h => by cases h) (by intro u hu; simp at hu; rcases hu with rfl | rfl <;> rfl) (k' + 1) rfl _ HAP.out (by unfold maxLen; omega) (by omega) (by simp; omega) ?_; intro A8 c8 w8 hown8 hk8 hat8; have hk9 := Lib.hid ((hk06.out.alloc (.cells #[.int .i64 (a : Int), .int .i64 (d : Int)] 72)).next hk8 (fun y hy => Or.inr (own_ge OW6.out (by simpa using hy)))); have HO8 := Lib.hid hown8; clear hown8 hk8 hat8))
   exact ⟨⟨d + 1, A8, k' + 1, c8, by omega, by go_num, rfl, hk9.out, by rw [HSP2.out, ← List.append_assoc]; exact Lib.hid (by rw [List.length_append, HK'.out]; rfl), HO8⟩, by simp [intOf]; omega⟩
end Go.Proofs.YtooejoajojanjaaGreatDoor
namespace Go.Df
open Go.RowKit
namespace Sp
theorem kindAt_lt {ns : List Nd} {f k : Int} (h : 0 ≤ kindAt ns f k) : kindAt ns f k < ns.length := by
 unfold kindAt at h ⊢
 cases hh : ns.findIdx? (fun n => n.f == f && n.k == k) with
 | none => rw [hh] at h; simp at h
 | some i =>
   have := (List.findIdx?_eq_some_iff_getElem.1 hh).1
   show (i : Int) < _
   omega
theorem whole_of {ns : List Nd} {m : Int} (h : nodesErr ns m = 0) {x : Nat} (hx : x < ns.length) : 0 ≤ kindAt ns (gn ns x).f 3 ∧ 0 ≤ kindAt ns (gn ns x).f 4 := by
 unfold nodesErr at h
 split at h
 · rename_i h0; exact absurd h h0
 · split at h
   · rename_i h1; exact absurd h h1
   · rename_i h1
     have h2 := fe_zero _ _ (Decidable.byContradiction h1) x (Nat.zero_le _) (by omega)
     unfold wholeErr at h2
     split at h2
     · cases h2
     · rename_i h3; omega
end Sp
namespace If
open Sp
noncomputable def sumOf (p : Pb) (i : Nat) : Su := ⟨(gn p.ns i).f, pairL p (kindAt p.ns (gn p.ns i).f 3).toNat, pairL p (kindAt p.ns (gn p.ns i).f 4).toNat⟩
open Classical in
/-- The summaries of the functions whose starts are reached, of the first i nodes. -/
noncomputable def sumI (p : Pb) : Nat → List Su
 | 0 => []
 | i + 1 => sumI p i ++ (if (gn p.ns i).k = 1 ∧ PE p 0 i 0 then [sumOf p i] else [])
structure SuR where
 f : Int
 E : Option Addr
 ne : Nat
 ce : Nat
 T : Option Addr
 nt : Nat
 ct : Nat
def sucells (l : List SuR) : List Value := l.flatMap fun x => [.int .i64 x.f, .slice x.E x.ne x.ce, .slice x.T x.nt x.ct]
theorem sucells_snoc (l : List SuR) (x : SuR) : sucells l ++ [.int .i64 x.f, .slice x.E x.ne x.ce, .slice x.T x.nt x.ct] = sucells (l ++ [x]) := by simp [sucells]
theorem sucells_at : ∀ (l : List SuR) {i : Nat} {x : SuR} (_ : l[i]? = some x), (sucells l)[i * 3]? = some (.int .i64 x.f) ∧ (sucells l)[i * 3 + 1]? = some (.slice x.E x.ne x.ce) ∧ (sucells l)[i * 3 + 2]? = some (.slice x.T x.nt x.ct)
 | [], i, x, h => by simp at h
 | y :: l, 0, x, h => by
   have : y = x := by simpa using h
   subst this
   simp [sucells]
 | y :: l, i + 1, x, h => by
   have h1 := sucells_at l (i := i) (x := x) (by simpa using h)
   have e : sucells (y :: l) = [.int .i64 y.f, .slice y.E y.ne y.ce, .slice y.T y.nt y.ct] ++ sucells l := rfl
   rw [e]
   refine ⟨?_, ?_, ?_⟩
   · rw [List.getElem?_append_right (by simp; omega), show (i + 1) * 3 - [Value.int .i64 y.f, .slice y.E y.ne y.ce, .slice y.T y.nt y.ct].length = i * 3 by simp; omega]; exact h1.1
   · rw [List.getElem?_append_right (by simp; omega), show (i + 1) * 3 + 1 - [Value.int .i64 y.f, .slice y.E y.ne y.ce, .slice y.T y.nt y.ct].length = i * 3 + 1 by simp; omega]; exact h1.2.1
   · rw [List.getElem?_append_right (by simp; omega), show (i + 1) * 3 + 2 - [Value.int .i64 y.f, .slice y.E y.ne y.ce, .slice y.T y.nt y.ct].length = i * 3 + 2 by simp; omega]; exact h1.2.2
def RwS (base : Nat) (ti : TypeId) (w : World) (l : List SuR) (L : List Su) : Prop :=
 l.length = L.length ∧ ∀ (i : Nat) (x : SuR) (u : Su), l[i]? = some x → L[i]? = some u → x.f = u.f ∧ Prs w x.E x.ne u.x ∧ Prs w x.T x.nt u.y ∧ (∀ a, x.E = some a → base ≤ a.block ∧ Tag w a.block ti) ∧ ∀ a, x.T = some a → base ≤ a.block ∧ Tag w a.block ti
theorem RwS.kept {base : Nat} {ti : TypeId} {l : List SuR} {L : List Su} {X : List Nat} {w w' : World} (h : RwS base ti w l L) (hk : Kept X w w') (hX : ∀ b, Tag w b ti → base ≤ b → b ∉ X) : RwS base ti w' l L :=
 ⟨h.1, fun i x u h1 h2 => by
   obtain ⟨e1, e2, e3, e4, e5⟩ := h.2 i x u h1 h2
   exact ⟨e1, prs_keptT e2 hk (fun a ha => hX _ (e4 a ha).2 (e4 a ha).1), prs_keptT e3 hk (fun a ha => hX _ (e5 a ha).2 (e5 a ha).1), fun a ha => ⟨(e4 a ha).1, (e4 a ha).2.same (hk.block _ (e4 a ha).2.lt (hX _ (e4 a ha).2 (e4 a ha).1))⟩, fun a ha => ⟨(e5 a ha).1, (e5 a ha).2.same (hk.block _ (e5 a ha).2.lt (hX _ (e5 a ha).2 (e5 a ha).1))⟩⟩⟩
theorem RwS.nil (base : Nat) (ti : TypeId) (w : World) : RwS base ti w [] [] := ⟨rfl, fun i x u h => by simp at h⟩
theorem RwS.snoc {base : Nat} {ti : TypeId} {w : World} {l : List SuR} {L : List Su} (h : RwS base ti w l L) {x : SuR} {u : Su} (e1 : x.f = u.f) (e2 : Prs w x.E x.ne u.x) (e3 : Prs w x.T x.nt u.y) (e4 : ∀ a, x.E = some a → base ≤ a.block ∧ Tag w a.block ti) (e5 : ∀ a, x.T = some a → base ≤ a.block ∧ Tag w a.block ti) : RwS base ti w (l ++ [x]) (L ++ [u]) := by
 refine ⟨by simp [h.1], fun i y v h1 h2 => ?_⟩
 by_cases hi : i < l.length
 · rw [List.getElem?_append_left hi] at h1
   rw [List.getElem?_append_left (by rw [← h.1]; exact hi)] at h2
   exact h.2 i y v h1 h2
 · rw [List.getElem?_append_right (by omega)] at h1
   rw [List.getElem?_append_right (by rw [← h.1]; omega), ← h.1] at h2
   have hi2 : i - l.length = 0 := by
     rcases Nat.eq_zero_or_pos (i - l.length) with h9 | h9
     · exact h9
     · rw [List.getElem?_eq_none (by simp; omega)] at h1; cases h1
   rw [hi2] at h1 h2
   have h1 : x = y := by simpa using h1
   have h2 : u = v := by simpa using h2
   subst h1 h2
   exact ⟨e1, e2, e3, e4, e5⟩
def Sums (w : World) (A : Option Addr) (n : Nat) (L : List Su) : Prop :=
 L.length = n ∧ (0 < n → ∃ b o, A = some ⟨b, o, none⟩ ∧ b < w.heap.size ∧ ∀ i u, L[i]? = some u → ∃ E ne ce T nt ct, w.cell? ⟨b, o + i * 3, none⟩ = some (.int .i64 u.f) ∧ w.cell? ⟨b, o + i * 3 + 1, none⟩ = some (.slice E ne ce) ∧ w.cell? ⟨b, o + i * 3 + 2, none⟩ = some (.slice T nt ct) ∧ Prs w E ne u.x ∧ Prs w T nt u.y)
theorem Sums.of {w : World} {base b2 : Nat} {ti te : TypeId} {A : Option Addr} {n c : Nat} {l : List SuR} {L : List Su} (h : w.ownsRow base te 3 (.slice A n c) n (sucells l)) (hl : l.length = n) (hr : RwS b2 ti w l L) : Sums w A n L := by
 refine ⟨by rw [← hr.1, hl], fun h0 => ?_⟩
 obtain ⟨g, c', hv, hb, hg, hc, -, hcell, -⟩ := own_cellsT h h0
 injection hv with e1 e2 e3
 refine ⟨g, 0, e1, hg, fun i u hu => ?_⟩
 have hi : i < l.length := by
   rcases Nat.lt_or_ge i L.length with h9 | h9
   · rw [hr.1]; exact h9
   · rw [List.getElem?_eq_none h9] at hu; cases hu
 obtain ⟨x, hx⟩ : ∃ x, l[i]? = some x := ⟨_, List.getElem?_eq_getElem hi⟩
 obtain ⟨h1, h2, h3⟩ := sucells_at l hx
 obtain ⟨f1, f2, f3, -, -⟩ := hr.2 i x u hx hu
 rw [Nat.zero_add]
 exact ⟨x.E, x.ne, x.ce, x.T, x.nt, x.ct, by rw [hcell _ (by omega), h1, f1], by rw [hcell _ (by omega), h2], by rw [hcell _ (by omega), h3], f2, f3⟩
theorem Sums.later {w w' : World} {A : Option Addr} {n : Nat} {L : List Su} (h : Sums w A n L) (hb : Below w.heap.size w w') : Sums w' A n L :=
 ⟨h.1, fun h0 => by
   obtain ⟨b, o, e, hl, hc⟩ := h.2 h0
   refine ⟨b, o, e, Nat.lt_of_lt_of_le hl hb.size, fun i u hu => ?_⟩
   obtain ⟨E, ne, ce, T, nt, ct, h1, h2, h3, h4, h5⟩ := hc i u hu
   exact ⟨E, ne, ce, T, nt, ct, (hb.cell (p := ⟨b, _, none⟩) hl).trans h1, (hb.cell (p := ⟨b, _, none⟩) hl).trans h2, (hb.cell (p := ⟨b, _, none⟩) hl).trans h3, h4.later hb, h5.later hb⟩⟩
theorem gS_some {L : List Su} {i : Nat} (h : i < L.length) : L[i]? = some (gS L i) := by
 rw [List.getElem?_eq_getElem h]
 simp [gS, h]
theorem Sums.smw {w : World} {A : Option Addr} {n : Nat} {L : List Su} (h : Sums w A n L) : SmW w A n L :=
 ⟨h.1, fun h0 => by
   obtain ⟨b, o, e, hl, hc⟩ := h.2 h0
   exact ⟨b, o, e, hl, fun i hi => hc i _ (gS_some (by rw [h.1]; exact hi))⟩⟩
end If
end Go.Df
