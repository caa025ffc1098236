/- Texts: Kt Ka. -/
import Derived.Test.YtincpmdldpakkaaGreatDoorRc37
import Derived.Test.YtincpmdldpakkaaGreatDoorRc18
import Derived.Test.YtincpmdldpakkaaGreatDoorRc02
import Derived.Test.YtincpmdldpakkaaGreatDoorRc11
namespace Go.Proofs.YtincpmdldpakkaaGreatDoor
open Go.RowKit Go.Df Go.Df.If
attribute [local go_sem ↓] Go.wp_at_zero Go.wp_at_succ
variable {p : Pb} {N F mN : Nat} {A1 A2 A3 A4 : Option Addr} {n2 n3 n4 : Nat} {X : List Nat} {bs : Nat → Nat} {r : Nat} {w0 w : World} {T : Nat → Nat → Nat → Bool}
def truthOf : Value → Nat | .bool true => 1 | _ => 0
set_option maxRecDepth 100000 in
set_option maxHeartbeats 8000000 in
theorem rclose_any (c1 c2 c3 c4 c : Nat) (w : World) (hP : PbW p N F mN A1 A2 A3 A4 n2 n3 n4 w0) (hb0 : Below w0.heap.size w0 w) (hX : ∀ x ∈ X, w0.heap.size ≤ x) (hT : TabM N F X bs r w T) (hN1 : 0 < N) (hsnd : SndT p (T, false)) (hmain : T p.mn.toNat 0 0 = true) :
   Calls Tryz.prog 98 #[.agg #[.slice A1 N c1, .slice A2 n2 c2, .int .i64 mN, .int .i64 (F : Nat), .slice A3 n3 c3, .slice A4 n4 c4, .int .i64 (F : Nat), .slice (some ⟨r, 0, none⟩) N c, .slice none 0 0, .bool false], .bool true] w fun e w' => e = .returned (.tuple #[]) ∧ Kept X w w' ∧ ∃ T', TabM N F X bs r w' T' ∧ ∀ n a d, T' n a d = true ↔ PE p a n d := by
 have HP := Lib.hid hP
 have HX := Lib.hid hX
 have hN8 := hP.N8
 have hF8 := hP.F8
 have hE8 : n2 ≤ 32768 := by have := (sup_parts hP.ok.sup).2.1; have := hP.ed.1; omega
 have HES := Lib.hid hP.ed.1
 have HSS := Lib.hid hP.sd.1
 have HXlt := Lib.hid hT.lt
 have HT := Lib.hid hT
 have HSN := Lib.hid hsnd
 have HMN := Lib.hid hmain
 have HFN := Lib.hid hP.Fn
 have hszw := hb0.size
 clear hP hX hT hsnd hmain
 go_enter Tryz.func98, Tryz.ntmps98
 go_upto_region 1 with fail
 refine wp_named (fun W => ∃ b0, w.heap.size = b0 ∧ Blk W b0 [.slice A1 N c1, .slice A2 n2 c2, .int .i64 mN, .int .i64 (F : Nat), .slice A3 n3 c3, .slice A4 n4 c4, .int .i64 (F : Nat), .slice (some ⟨r, 0, none⟩) N c, .slice none 0 0, .bool false] ∧ Below w.heap.size w W) ⟨_, rfl, ?_, ?_⟩ ?_
 · exact kbn
 · go_grown
 rintro W ⟨b0, e0, B0, hB⟩
 rw [e0]
 have G0 : w.heap.size ≤ b0 := by omega
 clear e0
 have ⟨L0, C0, F0⟩ := B0
 have hX0 : b0 ∉ X := fun h => by have := HXlt.out _ h; omega
 have HXW : Hid (∀ y, W.heap.size ≤ y → y ∉ X) := fun y hy h => by have := HXlt.out _ h; have := hB.size; omega
 have HBW : Hid (Below w0.heap.size w0 W) := Lib.hid (hb0.trans (hB.mono hszw))
 go_upto_region 3 with fail
 refine wp_named (fun V => ∃ g, W.heap.size = g ∧ Blk V g [.slice A1 N c1, .slice A2 n2 c2, .int .i64 mN, .int .i64 (F : Nat), .slice A3 n3 c3, .slice A4 n4 c4] ∧ Kept [] W V) ⟨_, rfl, Blk.new _ _ _ _ rfl, (Kept.refl _ _).alloc _⟩ ?_
 rintro V ⟨bp, ep, Bp, hkV⟩
 rw [ep]
 have hXp : bp ∉ X := HXW.out bp (by omega)
 have HBV : Hid (Below w0.heap.size w0 V) := Lib.hid (HBW.out.trans (hkV.toBelow.mono HBW.out.size))
 have HwV : Hid (Kept [] w V) := Lib.hid (((Kept.refl [] w).call hB).next hkV (by simp))
 have TV := Lib.hid (HT.out.kept0 HwV.out)
 have B0V := hkV.blk (by simp) B0
 have BpV := Bp
 clear C0 F0 ep Bp
 obtain ⟨PM, hPM⟩ : ∃ PM : Nat → World → Prop, PM = fun u wr => ∃ T, TabM N F X bs r wr T ∧ SndT p (T, false) ∧ T p.mn.toNat 0 0 = true ∧ unhT p T = u := ⟨_, rfl⟩
 have HPM := Lib.hid hPM
 have hPM0 : Hid (∃ u, PM u V) := Lib.hid (by rw [hPM]; exact ⟨_, T, TV.out, HSN.out, HMN.out, rfl⟩)
 clear hPM
 go_wp2_with fail
 go_loopw [5] (fun s5 wr => ∃ (m : Bool), s5 = .bool m ∧ Kept X V wr ∧ Hid (m = true → ∃ u, PM u wr) ∧ Hid (m = false → ∃ T', TabM N F X bs r wr T' ∧ ∀ n a d, T' n a d = true ↔ PE p a n d)) (fun s5 wr => 2 * leastM PM wr + truthOf s5)
 case atStart => exact ⟨true, rfl, Kept.refl _ _, Lib.hid (fun _ => hPM0.out), Lib.hid (fun h => by cases h)⟩
 case round =>
 obtain ⟨m, rfl, hkr, hex, hdone⟩ := hrel
 have B0r := hkr.blk hX0 B0V
 have Bpr := hkr.blk hXp BpV
 have ⟨L0r, C0r, F0r⟩ := B0r
 have ⟨Lpr, Cpr, Fpr⟩ := Bpr
 have hBr : Below w0.heap.size w0 wr := Kept.below HBV.out HBV.out.size HX.out hkr
 cases m with
 | false =>
   have HD := Lib.hid (hdone.out rfl)
   clear hdone hex
   go_wp2_with fail
   go_end0
   exact ⟨rfl, (keptWide HwV.out (by simp)).next hkr (fun y hy => .inl hy), HD.out⟩
 | true =>
 have hsp := leastM_spec (hex.out rfl)
 obtain ⟨lv, hlv⟩ : ∃ lv, leastM PM wr = lv := ⟨_, rfl⟩
 rw [hlv] at hsp
 have HLV := Lib.hid hlv
 rw [show PM = _ from HPM.out] at hsp
 obtain ⟨T0, hT0, hs0, hm0, hu0⟩ := hsp
 have TR := Lib.hid hT0
 have HS0 := Lib.hid hs0
 have HM0 := Lib.hid hm0
 have HU0 := Lib.hid hu0
 obtain ⟨T1, m1, h1⟩ : ∃ T1 m1, seededT p n4 (T0, false) = (T1, m1) := ⟨_, _, rfl⟩
 have H1 := Lib.hid h1
 clear hlv hT0 hs0 hm0 hu0 h1 hex hdone
 go_upto_region 5 with (go_at_call 148; refine (rseeded30_any c1 c2 c3 c4 c _ HP.out hBr HX.out TR.out).mono ?_; rw [H1.out]; rintro e w1 ⟨rfl, hk1, ht1⟩)
 have hkV1 : Kept X V w1 := hkr.next hk1 (fun y hy => .inl hy)
 have B01 := hk1.blk hX0 B0r
 have Bp1 := hk1.blk hXp Bpr
 have ⟨L01, C01, F01⟩ := B01
 have ⟨Lp1, Cp1, Fp1⟩ := Bp1
 have HB1 : Hid (Below w0.heap.size w0 w1) := Lib.hid (Kept.below HBV.out HBV.out.size HX.out hkV1)
 have TW1 := Lib.hid ht1
 clear C0r F0r Cpr Fpr ht1
 go_wp2_with fail
 go_loopw [5, 6] (fun s5 s6 wq => ∃ (k : Nat) (mk : Bool) (Tk : Nat → Nat → Nat → Bool), k ≤ n2 ∧ s6 = .int .i64 k ∧ s5 = .bool mk ∧ Kept X w1 wq ∧ Hid (TabM N F X bs r wq Tk) ∧ Hid (roundE p k (T1, m1) = (Tk, mk))) (fun _ s6 _ => n2 - (intOf s6).toNat)
 case atStart => exact ⟨0, m1, T1, Nat.zero_le _, rfl, rfl, Kept.refl _ _, TW1, Lib.hid rfl⟩
 case round =>
 rename World => wq
 clear C01 F01 Cp1 Fp1
 obtain ⟨k, mk, Tk, hk, rfl, rfl, hkq, TQ, HRk⟩ := hrel
 have ⟨L0q, C0q, F0q⟩ := hkq.blk hX0 B01
 have ⟨Lpq, Cpq, Fpq⟩ := hkq.blk hXp Bp1
 have hBq : Below w0.heap.size w0 wq := Kept.below HB1.out HB1.out.size HX.out hkq
 by_cases hlt : k < n2
 case neg =>
   obtain rfl : k = n2 := by omega
   have HRT : Hid (roundT p T0 = (Tk, mk)) := Lib.hid (by unfold roundT; rw [HES.out, HSS.out, H1.out, HRk.out])
   have hkVq : Kept X V wq := hkV1.next hkq (fun y hy => .inl hy)
   have hsk : SndT p (Tk, false) := fun n a d h => by
     have := round_snd HP.out.ok HS0.out n a d
     rw [HRT.out] at this
     exact this h
   have hrl := round_rl HP.out.ok T0
   rw [HRT.out] at hrl
   have hmk' : Tk p.mn.toNat 0 0 = true := hrl.le _ _ _ HM0.out
   have hPMk : PM (unhT p Tk) wq := by rw [show PM = _ from HPM.out]; exact ⟨Tk, TQ.out, hsk, hmk', rfl⟩
   have hle := leastM_le hPMk
   have HLE := Lib.hid hle
   have HPK := Lib.hid hPMk
   have HRL := Lib.hid hrl
   have HSK := Lib.hid hsk
   clear hle hPMk hsk hrl hmk'
   cases mk with
   | true =>
     have hlt' : unhT p Tk < unhT p T0 := by have h9 := round_unh HP.out.ok (T := T0) (by rw [HRT.out]); rw [HRT.out] at h9; exact h9
     have HLT := Lib.hid hlt'
     clear hlt'
     go_wp2_with fail
     refine ⟨⟨true, rfl, hkVq, Lib.hid (fun _ => ⟨_, HPK.out⟩), Lib.hid (fun h => by cases h)⟩, ?_⟩
     have h1 := HLE.out; have h2 := HLT.out; have h3 := HU0.out; have h4 := HLV.out
     simp only [truthOf]
     omega
   | false =>
     have hTk : Tk = T0 := by have h9 := HRL.out.fl rfl; injection h9
     have hclo : Clo p fun a n d => T0 n a d = true := round_clo HP.out.ok HM0.out HS0.out (by rw [HRT.out])
     have HFIN : Hid (∀ n a d, Tk n a d = true ↔ PE p a n d) := Lib.hid (fun n a d => ⟨HSK.out n a d, fun h => by rw [hTk]; exact hclo.all h⟩)
     have HUK : Hid (unhT p Tk = unhT p T0) := Lib.hid (by rw [hTk])
     clear hTk hclo
     go_wp2_with fail
     refine ⟨⟨false, rfl, hkVq, Lib.hid (fun h => by cases h), Lib.hid (fun _ => ⟨Tk, TQ.out, HFIN.out⟩)⟩, ?_⟩
     have h1 := HLE.out; have h2 := HUK.out; have h3 := HU0.out; have h4 := HLV.out
     simp only [truthOf]
     omega
 have hk9 : (k : Int) < (n2 : Int) := by omega
 obtain ⟨be, oe, rfl, hle, hce⟩ := HP.out.ed.2 (by omega)
 obtain ⟨ea, eb, ek, ec, en, hea, heb, hek1, hek5⟩ := HP.out.edge hlt
 have e3 := (hBq.cell (p := ⟨be, _, none⟩) hle).trans (hce k hlt).2.2.1
 rw [en] at e3
 have hleq : be < wq.heap.size := Nat.lt_of_lt_of_le hle hBq.size
 have HEN := Lib.hid en
 have HRK : Hid (roundE p (k + 1) (T1, m1) = edgeT p k (Tk, mk)) := by
   show _ = _
   have h9 := HRk.out
   unfold roundE at h9 ⊢
   rw [If.up, h9]
 have HEE : Hid (∀ s, edgeT p k s = if ek = 1 ∨ ek = 5 then passedT p k F s else if ek = 2 then enteredT p k F s else returnedT p k n2 s) := Lib.hid (fun s => by
   unfold edgeT
   rw [HEN.out, HFN.out, HES.out])
 clear hce en
 by_cases k1 : ek = 1 ∨ ek = 5
 · have HE9 : Hid (∀ s, edgeT p k s = passedT p k F s) := Lib.hid (fun s => by rw [HEE.out, if_pos k1])
   clear HEE hek1 hek5
   rcases k1 with rfl | rfl
   all_goals
     obtain ⟨T9, b9, h9⟩ : ∃ T9 b9, passedT p k F (Tk, false) = (T9, b9) := ⟨_, _, rfl⟩
     have HE : Hid (roundE p (k + 1) (T1, m1) = (T9, mk || b9)) := Lib.hid (by rw [HRK.out, HE9.out, passed_lin p k F Tk mk, h9])
     have H9 := Lib.hid h9
     clear h9
     cases mk <;> cases b9
     · go_wp2_with (go_at_call 149; refine (rpassed30_any k c1 c2 c3 c4 c _ HP.out hBq HX.out TQ.out hlt).mono ?_; rw [H9.out]; rintro e w4 ⟨rfl, hk4, ht4⟩)
       exact ⟨⟨k + 1, false, T9, by omega, by go_num, rfl, hkq.next hk4 (fun y hy => .inl hy), Lib.hid ht4, HE⟩, by simp [intOf]; omega⟩
     · go_wp2_with (go_at_call 149; refine (rpassed30_any k c1 c2 c3 c4 c _ HP.out hBq HX.out TQ.out hlt).mono ?_; rw [H9.out]; rintro e w4 ⟨rfl, hk4, ht4⟩)
       exact ⟨⟨k + 1, true, T9, by omega, by go_num, rfl, hkq.next hk4 (fun y hy => .inl hy), Lib.hid ht4, HE⟩, by simp [intOf]; omega⟩
     · go_wp2_with (go_at_call 149; refine (rpassed30_any k c1 c2 c3 c4 c _ HP.out hBq HX.out TQ.out hlt).mono ?_; rw [H9.out]; rintro e w4 ⟨rfl, hk4, ht4⟩)
       exact ⟨⟨k + 1, true, T9, by omega, by go_num, rfl, hkq.next hk4 (fun y hy => .inl hy), Lib.hid ht4, HE⟩, by simp [intOf]; omega⟩
     · go_wp2_with (go_at_call 149; refine (rpassed30_any k c1 c2 c3 c4 c _ HP.out hBq HX.out TQ.out hlt).mono ?_; rw [H9.out]; rintro e w4 ⟨rfl, hk4, ht4⟩)
       exact ⟨⟨k + 1, true, T9, by omega, by go_num, rfl, hkq.next hk4 (fun y hy => .inl hy), Lib.hid ht4, HE⟩, by simp [intOf]; omega⟩
 by_cases k2 : ek = 2
 · have HE9 : Hid (∀ s, edgeT p k s = enteredT p k F s) := Lib.hid (fun s => by rw [HEE.out, if_neg k1, if_pos k2])
   subst k2
   clear HEE hek1 hek5 k1
   obtain ⟨T9, b9, h9⟩ : ∃ T9 b9, enteredT p k F (Tk, false) = (T9, b9) := ⟨_, _, rfl⟩
   have HE : Hid (roundE p (k + 1) (T1, m1) = (T9, mk || b9)) := Lib.hid (by rw [HRK.out, HE9.out, entered_lin p k F Tk mk, h9])
   have H9 := Lib.hid h9
   clear h9
   cases mk <;> cases b9
   · go_wp2_with (go_at_call 150; refine (rentered30_any k c1 c2 c3 c4 c _ HP.out hBq HX.out TQ.out hlt).mono ?_; rw [H9.out]; rintro e w4 ⟨rfl, hk4, ht4⟩)
     exact ⟨⟨k + 1, false, T9, by omega, by go_num, rfl, hkq.next hk4 (fun y hy => .inl hy), Lib.hid ht4, HE⟩, by simp [intOf]; omega⟩
   · go_wp2_with (go_at_call 150; refine (rentered30_any k c1 c2 c3 c4 c _ HP.out hBq HX.out TQ.out hlt).mono ?_; rw [H9.out]; rintro e w4 ⟨rfl, hk4, ht4⟩)
     exact ⟨⟨k + 1, true, T9, by omega, by go_num, rfl, hkq.next hk4 (fun y hy => .inl hy), Lib.hid ht4, HE⟩, by simp [intOf]; omega⟩
   · go_wp2_with (go_at_call 150; refine (rentered30_any k c1 c2 c3 c4 c _ HP.out hBq HX.out TQ.out hlt).mono ?_; rw [H9.out]; rintro e w4 ⟨rfl, hk4, ht4⟩)
     exact ⟨⟨k + 1, true, T9, by omega, by go_num, rfl, hkq.next hk4 (fun y hy => .inl hy), Lib.hid ht4, HE⟩, by simp [intOf]; omega⟩
   · go_wp2_with (go_at_call 150; refine (rentered30_any k c1 c2 c3 c4 c _ HP.out hBq HX.out TQ.out hlt).mono ?_; rw [H9.out]; rintro e w4 ⟨rfl, hk4, ht4⟩)
     exact ⟨⟨k + 1, true, T9, by omega, by go_num, rfl, hkq.next hk4 (fun y hy => .inl hy), Lib.hid ht4, HE⟩, by simp [intOf]; omega⟩
 have HE9 : Hid (∀ s, edgeT p k s = returnedT p k n2 s) := Lib.hid (fun s => by rw [HEE.out, if_neg k1, if_neg k2])
 have z1 : (ek == 1) = false := by simp; omega
 have z2 : (ek == 5) = false := by simp; omega
 have z3 : (ek == 2) = false := by simp; omega
 clear HEE hek1 hek5 k1 k2
 obtain ⟨T9, b9, h9⟩ : ∃ T9 b9, returnedT p k n2 (Tk, false) = (T9, b9) := ⟨_, _, rfl⟩
 have HE : Hid (roundE p (k + 1) (T1, m1) = (T9, mk || b9)) := Lib.hid (by rw [HRK.out, HE9.out, returned_lin p k n2 Tk mk, h9])
 have H9 := Lib.hid h9
 clear h9
 cases mk <;> cases b9
 · go_wp2_with (go_at_call 151; refine (rreturned30_any k c1 c2 c3 c4 c _ HP.out hBq HX.out TQ.out hlt hN1).mono ?_; rw [H9.out]; rintro e w4 ⟨rfl, hk4, ht4⟩)
   exact ⟨⟨k + 1, false, T9, by omega, by go_num, rfl, hkq.next hk4 (fun y hy => .inl hy), Lib.hid ht4, HE⟩, by simp [intOf]; omega⟩
 · go_wp2_with (go_at_call 151; refine (rreturned30_any k c1 c2 c3 c4 c _ HP.out hBq HX.out TQ.out hlt hN1).mono ?_; rw [H9.out]; rintro e w4 ⟨rfl, hk4, ht4⟩)
   exact ⟨⟨k + 1, true, T9, by omega, by go_num, rfl, hkq.next hk4 (fun y hy => .inl hy), Lib.hid ht4, HE⟩, by simp [intOf]; omega⟩
 · go_wp2_with (go_at_call 151; refine (rreturned30_any k c1 c2 c3 c4 c _ HP.out hBq HX.out TQ.out hlt hN1).mono ?_; rw [H9.out]; rintro e w4 ⟨rfl, hk4, ht4⟩)
   exact ⟨⟨k + 1, true, T9, by omega, by go_num, rfl, hkq.next hk4 (fun y hy => .inl hy), Lib.hid ht4, HE⟩, by simp [intOf]; omega⟩
 · go_wp2_with (go_at_call 151; refine (rreturned30_any k c1 c2 c3 c4 c _ HP.out hBq HX.out TQ.out hlt hN1).mono ?_; rw [H9.out]; rintro e w4 ⟨rfl, hk4, ht4⟩)
   exact ⟨⟨k + 1, true, T9, by omega, by go_num, rfl, hkq.next hk4 (fun y hy => .inl hy), Lib.hid ht4, HE⟩, by simp [intOf]; omega⟩
set_option maxRecDepth 100000 in
set_option maxHeartbeats 8000000 in
theorem redges_any (c1 c2 c3 c4 : Nat) (w : World) (hP : PbW p N F mN A1 A2 A3 A4 n2 n3 n4 w) :
   Calls Tryz.prog 50 #[.agg #[.slice A1 N c1, .slice A2 n2 c2, .int .i64 mN, .int .i64 (F : Nat), .slice A3 n3 c3, .slice A4 n4 c4]] w fun e w' => ∃ X bs r c T, e = .returned (tabV N F r c) ∧ TabM N F X bs r w' T ∧ (∀ n a d, T n a d = true ↔ PE p a n d) ∧ Below w.heap.size w w' := by
 have hN8 := hP.N8
 have hF8 := hP.F8
 have hF1 := hP.F1
 have hm := main_in (sup_parts hP.ok.sup).2.2.1
 have hmN : mN < N := by have := hP.hm; have := hP.nd.1; omega
 have HMT : Hid (p.mn.toNat = mN) := Lib.hid (by rw [hP.hm]; rfl)
 have HP := Lib.hid hP
 clear hP hm
 go_enter Tryz.func50, Tryz.ntmps50
 go_upto_region 1 with fail
 refine wp_named (fun W => ∃ b0 b1, w.heap.size = b0 ∧ w.heap.size + 1 = b1 ∧ Blk W b0 [.slice A1 N c1, .slice A2 n2 c2, .int .i64 mN, .int .i64 (F : Nat), .slice A3 n3 c3, .slice A4 n4 c4] ∧ Blk W b1 [.int .i64 0, .slice none 0 0] ∧ Below w.heap.size w W) ⟨_, _, rfl, rfl, ?_, ?_, ?_⟩ ?_
 · exact (Blk.new _ _ _ _ (by first | rfl | simp)).alloc _
 · exact kbn
 · go_grown
 rintro W ⟨b0, b1, e0, e1, B0, B1, hB⟩
 rw [e1, e0]
 have G0 : w.heap.size ≤ b0 := by omega
 have n01 : b0 ≠ b1 := by omega
 have G1 : w.heap.size ≤ b1 := by omega
 have n10 : b1 ≠ b0 := by omega
 clear e0 e1
 have ⟨L0, C0, F0⟩ := B0
 have ⟨L1, C1, F1⟩ := B1
 have HPW := Lib.hid (HP.out.later hB)
 go_upto_region 2 with (go_at_call 96; refine (rempty_any A1 A2 A3 A4 N c1 n2 c2 n3 c3 n4 c4 mN F _ (by omega) hN8 hF1 hF8).mono ?_; rintro e w1 ⟨X, bs, r, c, rfl, ht1, hX1, hr1, hb1⟩)
 have T1 := Lib.hid ht1
 have HX1 := Lib.hid hX1
 refine wp_named (fun V => ∃ g, w1.heap.size = g ∧ Blk V g [.int .i64 (F : Nat), .slice (some ⟨r, 0, none⟩) N c] ∧ Kept [] w1 V) ⟨_, rfl, Blk.new _ _ _ _ rfl, (Kept.refl _ _).alloc _⟩ ?_
 rintro V ⟨g, eg, Bg, hkV⟩
 rw [eg]
 have hkWV : Kept [] W V := ((Kept.refl [] W).call hb1).next hkV (by simp)
 have TV := Lib.hid (ht1.kept0 hkV)
 have B0V := hkWV.blk (by simp) B0
 have B1V := hkWV.blk (by simp) B1
 have ⟨L0V, C0V, F0V⟩ := B0V
 have ⟨LGV, CGV, FGV⟩ := Bg
 have hXg : g ∉ X := fun h => by have := ht1.lt _ h; omega
 have hX0 : b0 ∉ X := fun h => by have := hX1 _ h; have := L0; omega
 have hX9 : b1 ∉ X := fun h => by have := hX1 _ h; have := L1; omega
 clear C0 F0 C1 F1 ht1 hX1 eg
 go_upto_region 3 with (go_at_call 97; refine (rtput_is c 0 mN 0 false _ TV.out hN8 hF8 hmN hF1 hF1 rfl).mono ?_; rintro e w2 ⟨rfl, hk2, ht2⟩)
 obtain ⟨T2, hT2⟩ : ∃ T2, (putT ((fun _ _ _ => false : Nat → Nat → Nat → Bool), false) mN 0 0).1 = T2 := ⟨_, rfl⟩
 rw [hT2] at ht2
 have HT2 := Lib.hid hT2
 have T2M := Lib.hid ht2
 have hkW2 : Kept [] W w2 := kept_fresh hkWV hk2 HX1.out
 have B02 := hk2.blk hX0 B0V
 have Bg2 := hk2.blk hXg Bg
 have B12 := hk2.blk hX9 B1V
 have ⟨L02, C02, F02⟩ := B02
 have ⟨LG2, CG2, FG2⟩ := Bg2
 have HSND : Hid (SndT p (T2, false)) := Lib.hid (by
   rw [← HT2.out]
   intro n a d h
   unfold putT at h
   simp at h
   obtain ⟨rfl, rfl, rfl⟩ := h
   rw [← HMT.out]
   exact .main)
 have HMAIN : Hid (T2 p.mn.toNat 0 0 = true) := Lib.hid (by rw [← HT2.out, HMT.out]; unfold putT; simp)
 clear C0V F0V CGV FGV ht2 hT2
 go_upto_region 4 with (go_at_call 98; refine (rclose_any c1 c2 c3 c4 c _ HPW.out hkW2.toBelow HX1.out T2M.out (by omega) HSND.out HMAIN.out).mono ?_; rintro e w3 ⟨rfl, hk3, T3, ht3, hpe⟩)
 have hkW3 : Kept [] W w3 := kept_fresh hkW2 hk3 HX1.out
 have Bg3 := hk3.blk hXg Bg2
 have B13 := hk3.blk hX9 B12
 have ⟨LG3, CG3, FG3⟩ := Bg3
 have ⟨L13, C13, F13⟩ := B13
 have T3M := Lib.hid ht3
 have HPE := Lib.hid hpe
 have hb1r : b1 ≠ r := by have h3 := L1; omega
 clear C02 F02 CG2 FG2 ht3 hpe
 go_wp2_with fail
 refine retNamedT (fun Y => Blk Y b1 [.int .i64 (F : Nat), .slice (some ⟨r, 0, none⟩) N c] ∧ Kept [b1] w3 Y) ⟨(B13.set 0 _).set 1 _, ((Kept.refl [b1] w3).set b1 0 _ (.inl (by simp))).set b1 1 _ (.inl (by simp))⟩ ?_
 rintro Y ⟨BY, hkY⟩
 have ⟨LY, CY, FY⟩ := BY
 have hkw3 : Kept [] w w3 := ((Kept.refl [] w).call hB).next hkW3 (by simp)
 refine bodyPost_ret (by simp [results, Tryz.results50, go_sem, CY]; try rfl) rfl ?_
 exact ⟨X, bs, r, c, T3, rfl, T3M.out.kept hkY (by simpa using hb1r.symm) (fun x hx h => hX9 (by rw [List.mem_singleton] at h; rw [← h]; exact hx)), HPE.out, (kept_fresh hkw3 hkY (by simpa using G1)).toBelow⟩
end Go.Proofs.YtincpmdldpakkaaGreatDoor
namespace Go.Df
open Go.RowKit
namespace If
def gbl (l : List Bool) (i : Nat) : Bool := l.getD i false
def gil (l : List (List Int)) (i : Nat) : List Int := l.getD i []
def Bls (w : World) (A : Option Addr) (n : Nat) (l : List Bool) : Prop :=
 l.length = n ∧ (0 < n → ∃ b o, A = some ⟨b, o, none⟩ ∧ b < w.heap.size ∧ ∀ i, i < n → w.cell? ⟨b, o + i, none⟩ = some (.bool (gbl l i)))
theorem Bls.later {w w' : World} {A : Option Addr} {n : Nat} {l : List Bool} (h : Bls w A n l) (hb : Below w.heap.size w w') : Bls w' A n l :=
 ⟨h.1, fun hn => by
  obtain ⟨b, o, e, hl, hc⟩ := h.2 hn
  exact ⟨b, o, e, Nat.lt_of_lt_of_le hl hb.size, fun i hi => (hb.cell (p := ⟨b, _, none⟩) hl).trans (hc i hi)⟩⟩
def IntsR (w : World) (A : Option Addr) (n : Nat) (ls : List (List Int)) : Prop :=
 ls.length = n ∧ (0 < n → ∃ b o, A = some ⟨b, o, none⟩ ∧ b < w.heap.size ∧ ∀ i, i < n → ∃ Ai ni ci, w.cell? ⟨b, o + i, none⟩ = some (.slice Ai ni ci) ∧ Ints w Ai ni (gil ls i) ∧ ni ≤ 9223372036854775807)
theorem IntsR.later {w w' : World} {A : Option Addr} {n : Nat} {ls : List (List Int)} (h : IntsR w A n ls) (hb : Below w.heap.size w w') : IntsR w' A n ls :=
 ⟨h.1, fun hn => by
  obtain ⟨b, o, e, hl, hc⟩ := h.2 hn
  refine ⟨b, o, e, Nat.lt_of_lt_of_le hl hb.size, fun i hi => ?_⟩
  obtain ⟨Ai, ni, ci, h1, h2, h3⟩ := hc i hi
  exact ⟨Ai, ni, ci, (hb.cell (p := ⟨b, _, none⟩) hl).trans h1, h2.later hb, h3⟩⟩
def holdsS (re : List Bool) (fs : List (List Int)) (node fact : Int) : Bool :=
 if node < 0 then false else if fact = 0 then decide (node.toNat < re.length) && gbl re node.toNat else decide (node.toNat < fs.length) && decide (fact ∈ gil fs node.toNat)
theorem mem_upto {l : List Int} {x : Int} {k : Nat} (hk : k < l.length) (e : gi l k = x) : x ∈ l := by
 rw [gi_lt hk] at e
 exact e ▸ List.getElem_mem hk
theorem not_mem_upto {l : List Int} {x : Int} (h : ∀ j, j < l.length → gi l j ≠ x) : ¬ x ∈ l := by
 intro hm
 obtain ⟨j, hj, e⟩ := List.getElem_of_mem hm
 exact h j hj ((gi_lt hj).trans e)
end If
end Go.Df
namespace Go.Proofs.YtincpmdldpakkaaGreatDoor
open Go.RowKit Go.Df Go.Df.If
attribute [local go_sem ↓] Go.wp_at_zero Go.wp_at_succ
set_option maxHeartbeats 1000000 in
theorem rhas_any (A : Option Addr) (n c : Nat) (l : List Int) (x : Int) (w : World) (hr : Ints w A n l) (hn : n ≤ 9223372036854775807) :
   Calls Tryz.prog 51 #[.slice A n c, .int .i64 x] w fun e w' => e = .returned (.bool (decide (x ∈ l))) ∧ w = w' := by
 have HR := Lib.hid hr
 have HL := Lib.hid hr.1
 clear hr
 go_enter Tryz.func51, Tryz.ntmps51
 go_wp2
 go_loop [5] (fun i => ∃ k : Nat, k ≤ n ∧ i = .int .i64 k ∧ Hid (∀ j, j < k → gi l j ≠ x)) (fun i => n - (intOf i).toNat)
 case atStart => exact ⟨0, Nat.zero_le _, rfl, Lib.hid (fun j hj => absurd hj (by omega))⟩
 case round =>
   obtain ⟨k, hk, rfl, hj⟩ := hrel
   by_cases hlt : k < n
   · obtain ⟨b, o, rfl, hl, hc⟩ := HR.out.2 (by omega)
     have hcell := hc k hlt
     have hk1 : (k : Int) < (n : Int) := by omega
     obtain ⟨v, hv⟩ : ∃ v, gi l k = v := ⟨_, rfl⟩
     rw [hv] at hcell
     have HV := Lib.hid hv
     clear hc hv
     by_cases e : v = x
     · have e1 : (v == x) = true := by simpa using e
       have HM : Hid (x ∈ l) := Lib.hid (mem_upto (by rw [HL.out]; exact hlt) (HV.out.trans e))
       clear e
       go_wp2
       go_ret
       exact ⟨ret_bool (decide_eq_true HM.out).symm, rfl⟩
     · have e1 : (v == x) = false := by simpa using e
       have HJ : Hid (∀ j, j < k + 1 → gi l j ≠ x) := fun j h1 => by
         rcases Nat.lt_or_ge j k with h2 | h2
         · exact hj.out j h2
         · obtain rfl : j = k := by omega
           rw [HV.out]; exact e
       clear e
       go_wp2
       go_round
       case rel => exact ⟨k + 1, by omega, by go_num, HJ⟩
       case measure => simp [intOf]; omega
   · have HM : Hid (¬ x ∈ l) := Lib.hid (not_mem_upto (fun j h1 => hj.out j (by rw [HL.out] at h1; omega)))
     go_wp2
     go_ret
     exact ⟨ret_bool (decide_eq_false HM.out).symm, rfl⟩
end Go.Proofs.YtincpmdldpakkaaGreatDoor
