/- Texts: Tu Vp Gl Dg Hi Ry. -/
import Derived.Test.YtincpmdldpakkaaGreatDoorJb36
import Derived.Test.YtincpmdldpakkaaGreatDoorJb41
import Derived.Test.YtincpmdldpakkaaGreatDoorJb40
import Derived.Test.YtincpmdldpakkaaGreatDoorJb39
import Derived.Test.YtincpmdldpakkaaGreatDoorJb13
import Derived.Test.YtincpmdldpakkaaGreatDoorRows
import Derived.ChangeSame
import Derived.LaidLaws
import Derived.LaidHandle
import Derived.Handed
import Derived.JoinedOf
import Derived.Lib.SmallJoins
namespace Go.Df
open Go.RowKit
namespace Iv
theorem JlR.nil (w : World) : JlR w none 0 [] := ⟨rfl, fun h => absurd h (by omega)⟩
theorem JlR.at {w0 w : World} {A : Option Addr} {n : Nat} {l : List Jp} (h : JlR w0 A n l) (hb : Below w0.heap.size w0 w) {i : Nat} (hi : i < n) :
   ∃ b o, A = some ⟨b, o, none⟩ ∧ b < w.heap.size ∧ w.cell? ⟨b, o + i * 6, none⟩ = some (.int .i64 (l.getD i default).n) ∧ w.cell? ⟨b, o + i * 6 + 1, none⟩ = some (.int .i64 (l.getD i default).i) ∧ w.cell? ⟨b, o + i * 6 + 2, none⟩ = some (.int .i64 (l.getD i default).o) ∧ w.cell? ⟨b, o + i * 6 + 3, none⟩ = some (.int .i64 (l.getD i default).k) ∧ w.cell? ⟨b, o + i * 6 + 4, none⟩ = some (.int .i64 (l.getD i default).b) ∧ w.cell? ⟨b, o + i * 6 + 5, none⟩ = some (.int .i64 (l.getD i default).c) := by
 obtain ⟨b, o, e, hl, hc⟩ := (h.later hb).2 (by omega)
 exact ⟨b, o, e, hl, hc i hi 0 (by omega), hc i hi 1 (by omega), hc i hi 2 (by omega), hc i hi 3 (by omega), hc i hi 4 (by omega), hc i hi 5 (by omega)⟩
end Iv
end Go.Df
namespace Go.Proofs.YtincpmdldpakkaaGreatDoor
open Go.RowKit Go.Df Go.Df.Iv Go.Df.Sp
attribute [local go_sem ↓] Go.wp_at_zero Go.wp_at_succ
set_option maxRecDepth 100000 in
set_option maxHeartbeats 4000000 in
theorem pjumps_err (A1 A2 A3 A4 : Option Addr) (n1 c1 n2 c2 n3 c3 n4 c4 : Nat) (mn F pe : Int) (w : World) (h0 : pe ≠ 0)
   (hchk : ∀ w1, Below w.heap.size w w1 → Calls Tryz.prog 31 #[.agg #[.slice A1 n1 c1, .slice A2 n2 c2, .int .i64 mn, .int .i64 F, .slice A3 n3 c3, .slice A4 n4 c4]] w1 fun e w' => e = .returned (.int .i64 pe) ∧ Below w1.heap.size w1 w') :
   Calls Tryz.prog 21 #[.agg #[.slice A1 n1 c1, .slice A2 n2 c2, .int .i64 mn, .int .i64 F, .slice A3 n3 c3, .slice A4 n4 c4]] w fun e w' => e = .returned (.tuple #[.slice none 0 0, .int .i64 pe]) ∧ Below w.heap.size w w' := by
 have HCHK := Lib.hid hchk
 have h0' : (pe != 0) = true := by simpa using h0
 clear hchk h0
 go_enter Tryz.func21, Tryz.ntmps21
 go_upto_region 1 with fail
 refine wp_named (fun W => ∃ b0, w.heap.size = b0 ∧ Blk W b0 [.slice A1 n1 c1, .slice A2 n2 c2, .int .i64 mn, .int .i64 F, .slice A3 n3 c3, .slice A4 n4 c4] ∧ Below w.heap.size w W) ⟨_, rfl, ?_, ?_⟩ ?_
 · exact kbn
 · go_grown
 rintro W ⟨b0, e0, B0, hB⟩
 rw [e0]
 have G0 : w.heap.size ≤ b0 := by omega
 clear e0
 have ⟨L0, C0, F0⟩ := B0
 go_upto_region 2 with (go_at_call 31; refine (HCHK.out _ hB).mono ?_; rintro e w1 ⟨rfl, hb1⟩)
 have hk1 : Kept [] W w1 := (Kept.refl _ _).call hb1
 have hB1 := hk1.below hB hB.size (by simp)
 go_wp2_with fail
 go_ret2
 exact ⟨rfl, hB1⟩
set_option maxRecDepth 100000 in
set_option maxHeartbeats 4000000 in
theorem rjumps_err (A1 A2 A3 A4 : Option Addr) (n1 c1 n2 c2 n3 c3 n4 c4 : Nat) (mn F pe : Int) (w : World) (h0 : pe ≠ 0)
   (hchk : ∀ w1, Below w.heap.size w w1 → Calls Tryz.prog 9 #[.agg #[.slice A1 n1 c1, .slice A2 n2 c2, .int .i64 mn, .int .i64 F, .slice A3 n3 c3, .slice A4 n4 c4]] w1 fun e w' => e = .returned (.int .i64 pe) ∧ Below w1.heap.size w1 w') :
   Calls Tryz.prog 22 #[.agg #[.slice A1 n1 c1, .slice A2 n2 c2, .int .i64 mn, .int .i64 F, .slice A3 n3 c3, .slice A4 n4 c4]] w fun e w' => e = .returned (.tuple #[.slice none 0 0, .int .i64 pe]) ∧ Below w.heap.size w w' := by
 have HCHK := Lib.hid hchk
 have h0' : (pe != 0) = true := by simpa using h0
 clear hchk h0
 go_enter Tryz.func22, Tryz.ntmps22
 go_upto_region 1 with fail
 refine wp_named (fun W => ∃ b0, w.heap.size = b0 ∧ Blk W b0 [.slice A1 n1 c1, .slice A2 n2 c2, .int .i64 mn, .int .i64 F, .slice A3 n3 c3, .slice A4 n4 c4] ∧ Below w.heap.size w W) ⟨_, rfl, ?_, ?_⟩ ?_
 · exact kbn
 · go_grown
 rintro W ⟨b0, e0, B0, hB⟩
 rw [e0]
 have G0 : w.heap.size ≤ b0 := by omega
 clear e0
 have ⟨L0, C0, F0⟩ := B0
 go_upto_region 2 with (go_at_call 9; refine (HCHK.out _ hB).mono ?_; rintro e w1 ⟨rfl, hb1⟩)
 have hk1 : Kept [] W w1 := (Kept.refl _ _).call hb1
 have hB1 := hk1.below hB hB.size (by simp)
 go_wp2_with fail
 go_ret2
 exact ⟨rfl, hB1⟩
def GetJs (p : Vb) (N : Nat) (pe : Int) (w : World) (e : Ending) (w' : World) : Prop :=
 ∃ (A : Option Addr) (n c : Nat) (l : List Jp), e = .returned (.tuple #[.slice A n c, .int .i64 pe]) ∧ JlR w' A n l ∧ (pe = 0 → ∃ T, l = jall T p.F.toNat N ∧ Clo p T ∧ Snd p T) ∧ (pe ≠ 0 → l = []) ∧ Below w.heap.size w w'
theorem js_eq {p : Vb} {N : Nat} {pe : Int} {l l' : List Jp} (h1 : pe = 0 → ∃ T, l = jall T p.F.toNat N ∧ Clo p T ∧ Snd p T) (h2 : pe ≠ 0 → l = []) (h3 : pe = 0 → ∃ T, l' = jall T p.F.toNat N ∧ Clo p T ∧ Snd p T) (h4 : pe ≠ 0 → l' = []) : l = l' := by
 by_cases h0 : pe = 0
 · obtain ⟨T, rfl, c1, s1⟩ := h1 h0
   obtain ⟨T', rfl, c2, s2⟩ := h3 h0
   rw [table_eq c1 s1 c2 s2]
 · rw [h2 h0, h4 h0]
theorem pjumps_any {p : Vb} (A1 A2 A3 A4 : Option Addr) (n1 c1 n2 c2 n3 c3 n4 c4 : Nat) (w : World) (h : Lies p A1 A2 A3 A4 n1 n2 n3 n4 w) (hgv : Gv w) (hmu : vErr p = 0 → mu0 p ≤ 1000000) (hbd : vErr p = 0 → n1 * (p.F.toNat * p.F.toNat) ≤ 1000000) :
   Calls Tryz.prog 21 #[.agg #[.slice A1 n1 c1, .slice A2 n2 c2, .int .i64 p.mn, .int .i64 p.F, .slice A3 n3 c3, .slice A4 n4 c4]] w (GetJs p n1 (vErr p) w) := by
 have h4 := h.n4
 have hck : ∀ w1, Below w.heap.size w w1 → Calls Tryz.prog 31 #[.agg #[.slice A1 n1 c1, .slice A2 n2 c2, .int .i64 p.mn, .int .i64 p.F, .slice A3 n3 c3, .slice A4 n4 c4]] w1 fun e w' => e = .returned (.int .i64 (vErr p)) ∧ Below w1.heap.size w1 w' := fun w1 hb =>
   ideck_any A1 A2 A3 A4 n1 c1 n2 c2 n3 c3 n4 c4 p.mn p.F p.ns p.es p.fl p.sd w1 (h.nd.later hb) (h.ed.later hb) (h.fl.later hb) (h.sd.later hb) (by omega) h.wn h.we (hgv.later hb)
 by_cases h0 : vErr p = 0
 · have ho := vok_of h0
   have hm := If.main_in (If.sup_parts ho.sup).2.2.1
   obtain ⟨mN, hmN⟩ := Int.eq_ofNat_of_zero_le (show 0 ≤ p.mn by omega)
   obtain ⟨f, hf⟩ := Int.eq_ofNat_of_zero_le (show 0 ≤ p.F by have := ho.f1; omega)
   have hff : p.F.toNat = f := by rw [hf, Int.toNat_natCast]
   have hr := pjumps_ok (K0 := ⟨A1, A2, A3, A4, n1, c1, n2, c2, n3, c3, n4, c4, 0, 0, 0, 0, 0, 0, 0, 0, fun _ => 0, fun _ => none, fun _ => 0, fun _ _ => .slice none 0 0⟩) w mN f ⟨h.nd, h.ed, h.fl, h.sd, h.fc⟩ hgv ho h.fit hmN hf h.n4 (hmu h0) (by have h9 := hbd h0; rw [hff] at h9; exact h9) (fun w1 hb => by
     have h9 := hck w1 hb
     rw [h0, hmN, hf] at h9
     exact h9)
   rw [← hmN, ← hf] at hr
   refine hr.mono ?_
   rintro e w' ⟨T, A, n, c, he, hj, hc, hs, hb⟩
   exact ⟨A, n, c, _, by rw [h0]; exact he, hj, fun _ => ⟨T, by rw [hff], hc, hs⟩, fun h9 => absurd h0 h9, hb⟩
 · refine (pjumps_err A1 A2 A3 A4 n1 c1 n2 c2 n3 c3 n4 c4 p.mn p.F (vErr p) w h0 hck).mono ?_
   rintro e w' ⟨he, hb⟩
   exact ⟨none, 0, 0, [], he, JlR.nil _, fun h9 => absurd h9 h0, fun _ => rfl, hb⟩
theorem rjumps_any {p : Vb} (A1 A2 A3 A4 : Option Addr) (n1 c1 n2 c2 n3 c3 n4 c4 : Nat) (w : World) (h : Lies p A1 A2 A3 A4 n1 n2 n3 n4 w) (hbd : vErr p = 0 → n1 * (p.F.toNat * p.F.toNat) ≤ 1000000) :
   Calls Tryz.prog 22 #[.agg #[.slice A1 n1 c1, .slice A2 n2 c2, .int .i64 p.mn, .int .i64 p.F, .slice A3 n3 c3, .slice A4 n4 c4]] w (GetJs p n1 (vErr p) w) := by
 have h4 := h.n4
 have hck : ∀ w1, Below w.heap.size w w1 → Calls Tryz.prog 9 #[.agg #[.slice A1 n1 c1, .slice A2 n2 c2, .int .i64 p.mn, .int .i64 p.F, .slice A3 n3 c3, .slice A4 n4 c4]] w1 fun e w' => e = .returned (.int .i64 (vErr p)) ∧ Below w1.heap.size w1 w' := fun w1 hb =>
   rideck_any A1 A2 A3 A4 n1 c1 n2 c2 n3 c3 n4 c4 p.mn p.F p.ns p.es p.fl p.sd w1 (h.nd.later hb) (h.ed.later hb) (h.fl.later hb) (h.sd.later hb) (by omega)
 by_cases h0 : vErr p = 0
 · have ho := vok_of h0
   have hm := If.main_in (If.sup_parts ho.sup).2.2.1
   obtain ⟨mN, hmN⟩ := Int.eq_ofNat_of_zero_le (show 0 ≤ p.mn by omega)
   obtain ⟨f, hf⟩ := Int.eq_ofNat_of_zero_le (show 0 ≤ p.F by have := ho.f1; omega)
   have hff : p.F.toNat = f := by rw [hf, Int.toNat_natCast]
   have hr := rjumps_ok (K := ⟨A1, A2, A3, A4, n1, c1, n2, c2, n3, c3, n4, c4, 0, 0, 0, 0, 0, 0, 0, 0, fun _ => 0, fun _ => none, fun _ => 0, fun _ _ => .slice none 0 0⟩) w mN f ⟨h.nd, h.ed, h.fl, h.sd, h.fc⟩ ho h.fit hmN hf h.n4 (by have h9 := hbd h0; rw [hff] at h9; exact h9) (fun w1 hb => by
     have h9 := hck w1 hb
     rw [h0, hmN, hf] at h9
     exact h9)
   rw [← hmN, ← hf] at hr
   refine hr.mono ?_
   rintro e w' ⟨T, A, n, c, he, hj, hc, hs, hb⟩
   exact ⟨A, n, c, _, by rw [h0]; exact he, hj, fun _ => ⟨T, by rw [hff], hc, hs⟩, fun h9 => absurd h0 h9, hb⟩
 · refine (rjumps_err A1 A2 A3 A4 n1 c1 n2 c2 n3 c3 n4 c4 p.mn p.F (vErr p) w h0 hck).mono ?_
   rintro e w' ⟨he, hb⟩
   exact ⟨none, 0, 0, [], he, JlR.nil _, fun h9 => absurd h9 h0, fun _ => rfl, hb⟩
set_option maxRecDepth 100000 in
set_option maxHeartbeats 20000000 in
theorem ideJumps_any {q : Vb} (A1 A2 A3 A4 : Option Addr) (n1 c1 n2 c2 n3 c3 n4 c4 : Nat) (w : World) (hF : Fls w A3 n3 q.fl) (hL : n4 ≤ 1000000 → Lies q A1 A2 A3 A4 n1 n2 n3 n4 w) (hgv : Gv w) :
   Calls Tryz.prog 5 #[.agg #[.slice A1 n1 c1, .slice A2 n2 c2, .int .i64 q.mn, .int .i64 q.F, .slice A3 n3 c3, .slice A4 n4 c4]] w fun e w' => e = .returned (.bool true) ∧ Below w.heap.size w w' := by
 have HF := Lib.hid hF
 have HL := Lib.hid hL
 have HGV := Lib.hid hgv
 obtain ⟨pe, hpe⟩ : ∃ pe, vErr q = pe := ⟨_, rfl⟩
 have HPE := Lib.hid hpe
 clear hF hL hpe hgv
 go_enter Tryz.func5, Tryz.ntmps5
 go_upto_region 1 with fail
 refine wp_named (fun W => ∃ b0, w.heap.size = b0 ∧ Blk W b0 [.slice A1 n1 c1, .slice A2 n2 c2, .int .i64 q.mn, .int .i64 q.F, .slice A3 n3 c3, .slice A4 n4 c4] ∧ Below w.heap.size w W) ⟨_, rfl, ?_, ?_⟩ ?_
 · exact kbn
 · go_grown
 rintro W ⟨b0, e0, B0, hB⟩
 rw [e0]
 have G0 : w.heap.size ≤ b0 := by omega
 clear e0
 have ⟨L0, C0, F0⟩ := B0
 have HB0 := Lib.hid B0
 go_wp2_with fail
 refine (small33_any A1 A2 A3 A4 n1 c1 n2 c2 n3 c3 n4 c4 q.mn q.F q.fl _ (HF.out.later hB)).mono ?_
 rintro e w1 ⟨b, rfl, hsm, hb1⟩
 have hk1 : Kept [] W w1 := (Kept.refl _ _).call hb1
 have HB1 : Hid (Below w.heap.size w w1) := Lib.hid (hk1.below hB hB.size (by simp))
 have B01 := Lib.hid (hk1.blk (by simp) HB0.out)
 have ⟨L01, C01, F01⟩ := B01.out
 clear C0 F0
 cases b with
 | false =>
   go_wp2_with fail
   go_ret
   exact ⟨rfl, HB1.out⟩
 | true =>
 have HSM := Lib.hid (hsm rfl)
 have HLL : Hid (Lies q A1 A2 A3 A4 n1 n2 n3 n4 w) := HL.out (by have := HSM.out; omega)
 have HMU : Hid (mu0 q ≤ 1000000) := mu_small (by have := HSM.out; have := HLL.out.nd.1; omega) (by have := HSM.out; omega)
 have HBD : Hid (n1 * (q.F.toNat * q.F.toNat) ≤ 1296) := by
   show _ ≤ _
   have h1 := HSM.out
   have h2 : q.F.toNat * q.F.toNat ≤ 6 * 6 := Nat.mul_le_mul (by omega) (by omega)
   exact Nat.le_trans (Nat.mul_le_mul (show n1 ≤ 36 by omega) h2) (by omega)
 clear hsm
 have HPJ : Hid (Calls Tryz.prog 21 #[.agg #[.slice A1 n1 c1, .slice A2 n2 c2, .int .i64 q.mn, .int .i64 q.F, .slice A3 n3 c3, .slice A4 n4 c4]] w1 (GetJs q n1 pe w1)) := Lib.hid (by
   rw [← HPE.out]
   exact pjumps_any A1 A2 A3 A4 n1 c1 n2 c2 n3 c3 n4 c4 w1 (HLL.out.later HB1.out) (HGV.out.later HB1.out) (fun _ => HMU.out) (fun _ => Nat.le_trans HBD.out (by omega)))
 have HRJ : Hid (∀ w9, Below w.heap.size w w9 → Calls Tryz.prog 22 #[.agg #[.slice A1 n1 c1, .slice A2 n2 c2, .int .i64 q.mn, .int .i64 q.F, .slice A3 n3 c3, .slice A4 n4 c4]] w9 (GetJs q n1 pe w9)) := Lib.hid (fun w9 hb => by
   rw [← HPE.out]
   exact rjumps_any A1 A2 A3 A4 n1 c1 n2 c2 n3 c3 n4 c4 w9 (HLL.out.later hb) (fun _ => Nat.le_trans HBD.out (by omega)))
 go_upto_region 4 with (go_at_call 21; refine HPJ.out.mono ?_; rintro e w2 ⟨Aa, na, ca, la, rfl, hja, ha1, ha2, hb2⟩; have HJA := Lib.hid hja; have HA1 := Lib.hid ha1; have HA2 := Lib.hid ha2; clear hja ha1 ha2)
 have hk12 : Kept [] w1 w2 := (Kept.refl _ _).call hb2
 have HB2 : Hid (Below w.heap.size w w2) := Lib.hid (hk12.below HB1.out HB1.out.size (by simp))
 have B02 := Lib.hid (hk12.blk (by simp) B01.out)
 have ⟨L02, C02, F02⟩ := B02.out
 clear C01 F01 L01
 go_upto_region 5 with (go_at_call 22; refine (HRJ.out _ HB2.out).mono ?_; rintro e w3 ⟨Ab, nb, cb, lb, rfl, hjb, hb1', hb2', hb3⟩; have HJB := Lib.hid hjb; have HB1' := Lib.hid hb1'; have HB2' := Lib.hid hb2'; clear hjb hb1' hb2')
 have hll : la = lb := js_eq HA1.out HA2.out HB1'.out HB2'.out
 subst hll
 have hnn : na = nb := HJA.out.1.symm.trans HJB.out.1
 subst hnn
 have hk23 : Kept [] w2 w3 := (Kept.refl _ _).call hb3
 have HB3 : Hid (Below w.heap.size w w3) := Lib.hid (hk23.below HB2.out HB2.out.size (by simp))
 have HJA3 := Lib.hid (HJA.out.later hk23.toBelow)
 have hna : na ≤ 1296 := by
   have h1 := HJA.out.1
   by_cases h0 : pe = 0
   · obtain ⟨T, e1, -, -⟩ := HA1.out h0
     have h2 := jall_len (T := T) (f := q.F.toNat) (N := n1)
     have h3 := HBD.out
     rw [← e1] at h2
     omega
   · have h2 := HA2.out h0
     rw [h2] at h1
     simp at h1
     omega
 clear C02 F02 L02
 go_wp2_with fail
 go_loopw [7] (fun s wr => ∃ i : Nat, i ≤ na ∧ s = .int .i64 i ∧ Hid (Kept [] w3 wr)) (fun s _ => na - (intOf s).toNat)
 case atStart => exact ⟨0, Nat.zero_le _, rfl, Lib.hid (Kept.refl _ _)⟩
 case round =>
 obtain ⟨i, hi, rfl, HKR⟩ := hrel
 have HBR : Hid (Below w.heap.size w wr) := Lib.hid (HKR.out.below HB3.out HB3.out.size (by simp))
 by_cases hlt : i < na
 case neg =>
   obtain rfl : i = na := by omega
   go_wp2_with (go_at_call 14; refine (knows33_any _ (HGV.out.later HBR.out)).mono ?_; rintro e w5 ⟨rfl, hb5⟩)
   go_ret
   exact ⟨rfl, (((Kept.refl [] wr).call hb5)).below HBR.out HBR.out.size (by simp)⟩
 obtain ⟨b5, o5, rfl, l5, x0, x1, x2, x3, x4, x5⟩ := HJA3.out.at HKR.out.toBelow hlt
 obtain ⟨b6, o6, rfl, l6, y0, y1, y2, y3, y4, y5⟩ := HJB.out.at HKR.out.toBelow hlt
 obtain ⟨z0, z1, z2, z3, z4, z5, ez⟩ : ∃ z0 z1 z2 z3 z4 z5, la.getD i default = ⟨z0, z1, z2, z3, z4, z5⟩ := ⟨_, _, _, _, _, _, rfl⟩
 rw [ez] at x0 x1 x2 x3 x4 x5 y0 y1 y2 y3 y4 y5
 have hj9 : (i : Int) < (na : Int) := by omega
 clear ez
 go_upto_region 10 with fail
 go_quiet (fail)
 go_wp2_with fail
 exact ⟨⟨i + 1, by omega, by go_num, Lib.hid (HKR.out.drewN _)⟩, by simp [intOf]; omega⟩
end Go.Proofs.YtincpmdldpakkaaGreatDoor
namespace Go.Df
open Go.RowKit
namespace Sp
def chkErr (ns : List Nd) (es : List Ed) (m fr : Int) : Int := if superErr ns es m ≠ 0 then superErr ns es m else if fr < 0 ∨ (ns.length : Int) ≤ fr then 4 else 0
def stepS (es : List Ed) (at_ : Int) (cs : List Int) (k : Int) : Int × Int × List Int :=
 if k < 0 ∨ (es.length : Int) ≤ k then (4, 0, [])
 else if (ge es k.toNat).a ≠ at_ then (16, 0, [])
 else if (ge es k.toNat).k = 3 ∨ (ge es k.toNat).k = 4 then (if cs = [] ∨ gi cs 0 ≠ (ge es k.toNat).c then (20, 0, []) else (0, (ge es k.toNat).b, cs.tail))
 else if (ge es k.toNat).k = 2 then (0, (ge es k.toNat).b, at_ :: cs) else (0, (ge es k.toNat).b, cs)
def runS (es : List Ed) : Int → List Int → List Int → Int × Int × List Int
 | a, cs, [] => (0, a, cs)
 | a, cs, k :: r => if (stepS es a cs k).1 ≠ 0 then ((stepS es a cs k).1, 0, []) else runS es (stepS es a cs k).2.1 (stepS es a cs k).2.2 r
def followS (ns : List Nd) (es : List Ed) (m fr : Int) (path : List Int) : Int × Int × List Int :=
 if chkErr ns es m fr ≠ 0 then (chkErr ns es m fr, 0, []) else if 4096 < path.length then (3, 0, []) else runS es fr [] path
end Sp
theorem BlkN.drewN {w : World} {b n : Nat} (h : BlkN w b n) (q : Nat) : BlkN (w.drewN q) b n := h
theorem post_named {P : Program} {f : Func} {Q : Ending → World → Prop} {e : Exit} {a : Act} {w : World} (S : World → Prop) (h0 : S w) (h : ∀ X, S X → bodyPost P f Q e a X) : bodyPost P f Q e a w := h w h0
def Pend (w : World) : Option Addr → List Int → Prop
 | p, [] => p = none
 | p, c :: r => ∃ b q, p = some ⟨b, 0, none⟩ ∧ Blk w b [.int .i64 c, .pointer q] ∧ Pend w q r
theorem Pend.kept {w w' : World} (hk : Kept [] w w') : ∀ (cs : List Int) {p : Option Addr}, Pend w p cs → Pend w' p cs
 | [], _, h => h
 | _ :: r, _, ⟨b, q, e, hb, h⟩ => ⟨b, q, e, hk.blk (by simp) hb, Pend.kept hk r h⟩
theorem Pend.later {w w' : World} {cs : List Int} {p : Option Addr} (h : Pend w p cs) (hb : Below w.heap.size w w') : Pend w' p cs := Pend.kept ((Kept.refl _ _).call hb) cs h
theorem Sp.chk_ok {ns : List Sp.Nd} {es : List Sp.Ed} {m fr : Int} (h : Sp.chkErr ns es m fr = 0) : Sp.superErr ns es m = 0 ∧ 0 ≤ fr ∧ fr < ns.length := by
 unfold Sp.chkErr at h
 split at h
 · rename_i h1; exact absurd h h1
 · rename_i h1
   split at h
   · cases h
   · exact ⟨Classical.not_not.mp h1, by omega, by omega⟩
end Go.Df
namespace Go.Df
open Go.RowKit Go.ChangeShapes Go.WideShapes
section
variable {H : Type} {enc : TypeId × Value → H} {P : Program} {w : World} {base : Nat} {held : Bool}
theorem addr_add_add (a : Addr) (x y : Nat) : (a.add x).add y = a.add (x + y) := by
 by_cases hx : x = 0 <;> by_cases hy : y = 0 <;> simp [Addr.add, hx, hy, Nat.add_assoc]
theorem open_rowsI {t e : TypeId} {k fuel : Nat} {v : Value} {x : DataW H × List MemPlace} (ht : P.underlying t = some (.slice e)) (hC : P.cellsOf e = k) (hk : 0 < k)
   (hel : ∀ n cs' y, DataW.trod enc P w base (fun _ => true) held n e cs' = some y → ∃ zs : List Int, cs' = zs.map (Value.int .i64) ∧ ∀ q, q < k → (Lit.int .i64 (gi zs q)).wf = true)
   (h : DataW.trod enc P w base (fun _ => true) held fuel t [v] = some x) :
   ∃ A n c, ∃ g : Nat → Nat → Int, v = .slice A n c ∧ n ≤ c ∧ (0 < n → ∃ b o, A = some ⟨b, o, none⟩ ∧ b < w.heap.size ∧ ∀ i, i < n → ∀ q, q < k → w.cell? ⟨b, o + i * k + q, none⟩ = some (.int .i64 (g i q))) ∧ ∀ i, i < n → ∀ q, q < k → (Lit.int .i64 (g i q)).wf = true := by
 rcases Go.Deep.open_slice ht h with ⟨h0, _⟩ | ⟨a, len, cap, m, n, D, Pl, hcs, hbb, hl, hm, hmm, hx, hi⟩
 · injection h0 with h0
   exact ⟨none, 0, 0, fun _ _ => 0, h0, Nat.le_refl _, fun h => absurd h (by omega), fun i hi => absurd hi (by omega)⟩
 · injection hcs with hcs
   subst hcs
   have hread : ∀ i, i < len → ∃ zs : List Int, ∀ q, q < k → w.cell? (a.add (i * k + q)) = some (.int .i64 (gi zs q)) ∧ (Lit.int .i64 (gi zs q)).wf = true := by
     intro i hil
     obtain ⟨cs', hc, ht'⟩ := hi i (by rw [hmm]; simp; omega)
     rw [hC] at hc
     obtain ⟨zs, rfl, hw⟩ := hel _ _ _ ht'
     refine ⟨zs, fun q hq => ⟨?_, hw q hq⟩⟩
     obtain ⟨h1, h2, h3⟩ := World.cells?_some hc
     have h4 := h3 q hq
     have h5 : q < zs.length := by simp at h2; omega
     rw [map_gi h5] at h4
     have e1 : (a.add (i * k)).add q = a.add (i * k + q) := addr_add_add a _ _
     rw [← e1]
     exact h4
   have hex : ∃ f : Nat → List Int, ∀ i, i < len → ∀ q, q < k → w.cell? (a.add (i * k + q)) = some (.int .i64 (gi (f i) q)) ∧ (Lit.int .i64 (gi (f i) q)).wf = true :=
     ⟨fun i => if hil : i < len then (hread i hil).choose else [], fun i hil => by simp only [dif_pos hil]; exact (hread i hil).choose_spec⟩
   obtain ⟨f, hf⟩ := hex
   refine ⟨some a, len, cap, fun i q => gi (f i) q, rfl, hl, fun hp => ?_, fun i hi q hq => (hf i hi q hq).2⟩
   obtain ⟨b, o, sp⟩ := a
   have h0 := (hf 0 hp 0 hk).1
   have hsp : sp = none := by
     cases sp with
     | none => rfl
     | some s =>
       exfalso
       simp only [World.cell?, Addr.add] at h0
       split at h0 <;> simp at h0
   subst hsp
   refine ⟨b, o, rfl, cell_lt (p := ⟨b, o, none⟩) (by have h9 := h0; rw [add_lit] at h9; simpa using h9), fun i hil q hq => ?_⟩
   have h8 := (hf i hil q hq).1
   rw [add_lit, ← Nat.add_assoc] at h8
   exact h8
theorem cells3 {cs : List Value} {z0 z1 z2 : Int} (hl : cs.length = 3) (h0 : (cs.drop 0).take 1 = [.int .i64 z0]) (h1 : (cs.drop 1).take 1 = [.int .i64 z1]) (h2 : (cs.drop 2).take 1 = [.int .i64 z2]) : cs = [z0, z1, z2].map (Value.int .i64) := by
 match cs, hl with
 | [a, b, c], _ => simp at h0 h1 h2; simp [h0, h1, h2]
theorem cells4 {cs : List Value} {z0 z1 z2 z3 : Int} (hl : cs.length = 4) (h0 : (cs.drop 0).take 1 = [.int .i64 z0]) (h1 : (cs.drop 1).take 1 = [.int .i64 z1]) (h2 : (cs.drop 2).take 1 = [.int .i64 z2]) (h3 : (cs.drop 3).take 1 = [.int .i64 z3]) : cs = [z0, z1, z2, z3].map (Value.int .i64) := by
 match cs, hl with
 | [a, b, c, d], _ => simp at h0 h1 h2 h3; simp [h0, h1, h2, h3]
theorem gn_mk {n i : Nat} (h : i < n) (f : Nat → Sp.Nd) : gn ((List.range n).map f) i = f i := by
 rw [gn_lt (by simpa using h)]
 simp
theorem ge_mk {n i : Nat} (h : i < n) (f : Nat → Sp.Ed) : ge ((List.range n).map f) i = f i := by
 rw [ge_lt (by simpa using h)]
 simp
theorem gr_mk {A1 A2 : Option Addr} {n1 n2 : Nat} {g1 g2 : Nat → Nat → Int}
   (c1 : 0 < n1 → ∃ b o, A1 = some ⟨b, o, none⟩ ∧ b < w.heap.size ∧ ∀ i, i < n1 → ∀ q, q < 3 → w.cell? ⟨b, o + i * 3 + q, none⟩ = some (.int .i64 (g1 i q))) (w1 : ∀ i, i < n1 → ∀ q, q < 3 → (Lit.int .i64 (g1 i q)).wf = true)
   (c2 : 0 < n2 → ∃ b o, A2 = some ⟨b, o, none⟩ ∧ b < w.heap.size ∧ ∀ i, i < n2 → ∀ q, q < 4 → w.cell? ⟨b, o + i * 4 + q, none⟩ = some (.int .i64 (g2 i q))) (w2 : ∀ i, i < n2 → ∀ q, q < 4 → (Lit.int .i64 (g2 i q)).wf = true) :
   Gr w A1 n1 A2 n2 ((List.range n1).map (fun i => ⟨g1 i 0, g1 i 1, g1 i 2⟩)) ((List.range n2).map (fun i => ⟨g2 i 0, g2 i 1, g2 i 2, g2 i 3⟩)) := by
 refine ⟨⟨by simp, fun h => ?_⟩, ⟨by simp, fun h => ?_⟩, fun j hj => ?_, fun j hj => ?_⟩
 · obtain ⟨b, o, e, hl, hc⟩ := c1 h
   refine ⟨b, o, e, hl, fun i hi => ?_⟩
   rw [gn_mk hi]
   exact ⟨hc i hi 0 (by omega), hc i hi 1 (by omega), hc i hi 2 (by omega)⟩
 · obtain ⟨b, o, e, hl, hc⟩ := c2 h
   refine ⟨b, o, e, hl, fun i hi => ?_⟩
   rw [ge_mk hi]
   exact ⟨hc i hi 0 (by omega), hc i hi 1 (by omega), hc i hi 2 (by omega), hc i hi 3 (by omega)⟩
 · rw [gn_mk hj]
   exact w1 j hj 0 (by omega)
 · rw [ge_mk hj]
   exact ⟨w2 j hj 0 (by omega), w2 j hj 1 (by omega)⟩
end
end Go.Df
namespace Go.Proofs.YtincpmdldpakkaaGreatDoor
open Go.RowKit Go.ChangeShapes Go.WideShapes Go.Joins Go.Df
theorem open_node {H : Type} {enc : TypeId × Value → H} {w : World} {base : Nat} {held : Bool} (n : Nat) (cs' : List Value) (y : DataW H × List MemPlace) (h : DataW.trod enc Tryz.prog w base (fun _ => true) held n 120 cs' = some y) : ∃ zs : List Int, cs' = zs.map (Value.int .i64) ∧ ∀ q, q < 3 → (Lit.int .i64 (gi zs q)).wf = true := by
 obtain ⟨y0, y1, y2, m, -, hl, h0, h1, h2⟩ := Go.Deep.trod_struct3 Tryz.underlying120 h
 obtain ⟨z0, e0, -, w0⟩ := DataW.trod_int Tryz.underlying3 h0
 obtain ⟨z1, e1, -, w1⟩ := DataW.trod_int Tryz.underlying3 h1
 obtain ⟨z2, e2, -, w2⟩ := DataW.trod_int Tryz.underlying3 h2
 have hc3 : Tryz.prog.cellsOf 120 = 3 := by kernel_rfl
 have hc1 : Tryz.prog.cellsOf 3 = 1 := by kernel_rfl
 rw [hc3] at hl
 dsimp only at e0 e1 e2
 rw [hc1] at e0 e1 e2
 refine ⟨[z0, z1, z2], cells3 hl e0 e1 e2, fun q hq => ?_⟩
 match q, hq with
 | 0, _ => exact w0
 | 1, _ => exact w1
 | 2, _ => exact w2
theorem open_edge {H : Type} {enc : TypeId × Value → H} {w : World} {base : Nat} {held : Bool} (n : Nat) (cs' : List Value) (y : DataW H × List MemPlace) (h : DataW.trod enc Tryz.prog w base (fun _ => true) held n 43 cs' = some y) : ∃ zs : List Int, cs' = zs.map (Value.int .i64) ∧ ∀ q, q < 4 → (Lit.int .i64 (gi zs q)).wf = true := by
 obtain ⟨y0, y1, y2, y3, m, -, hl, h0, h1, h2, h3⟩ := trod_struct4 Tryz.underlying43 h
 obtain ⟨z0, e0, -, w0⟩ := DataW.trod_int Tryz.underlying3 h0
 obtain ⟨z1, e1, -, w1⟩ := DataW.trod_int Tryz.underlying3 h1
 obtain ⟨z2, e2, -, w2⟩ := DataW.trod_int Tryz.underlying3 h2
 obtain ⟨z3, e3, -, w3⟩ := DataW.trod_int Tryz.underlying3 h3
 have hc3 : Tryz.prog.cellsOf 43 = 4 := by kernel_rfl
 have hc1 : Tryz.prog.cellsOf 3 = 1 := by kernel_rfl
 rw [hc3] at hl
 dsimp only at e0 e1 e2 e3
 rw [hc1] at e0 e1 e2 e3
 refine ⟨[z0, z1, z2, z3], cells4 hl e0 e1 e2 e3, fun q hq => ?_⟩
 match q, hq with
 | 0, _ => exact w0
 | 1, _ => exact w1
 | 2, _ => exact w2
 | 3, _ => exact w3
theorem open_gr {H : Type} {enc : TypeId × Value → H} {w : World} {base : Nat} {held : Bool} {f1 f2 : Nat} {v1 v2 : Value} {x1 x2 : DataW H × List MemPlace}
   (h1 : DataW.trod enc Tryz.prog w base (fun _ => true) held f1 22 [v1] = some x1) (h2 : DataW.trod enc Tryz.prog w base (fun _ => true) held f2 23 [v2] = some x2) :
   ∃ A1 n1 c1 A2 n2 c2 ns es, v1 = .slice A1 n1 c1 ∧ v2 = .slice A2 n2 c2 ∧ Gr w A1 n1 A2 n2 ns es := by
 obtain ⟨A1, n1, c1, g1, rfl, -, k1, w1⟩ := open_rowsI Tryz.underlying22 (k := 3) (by kernel_rfl) (by omega) open_node h1
 obtain ⟨A2, n2, c2, g2, rfl, -, k2, w2⟩ := open_rowsI Tryz.underlying23 (k := 4) (by kernel_rfl) (by omega) open_edge h2
 exact ⟨A1, n1, c1, A2, n2, c2, _, _, rfl, rfl, gr_mk k1 w1 k2 w2⟩
end Go.Proofs.YtincpmdldpakkaaGreatDoor
namespace Go.Df
open Go.RowKit Go.ChangeShapes Go.WideShapes
section
variable {H : Type} {enc : TypeId × Value → H} {P : Program} {w : World} {base : Nat} {held : Bool}
theorem open_rowsC {t e : TypeId} {fuel : Nat} {v : Value} {x : DataW H × List MemPlace} (ht : P.underlying t = some (.slice e)) (hC : P.cellsOf e = 1)
   (h : DataW.trod enc P w base (fun _ => true) held fuel t [v] = some x) :
   ∃ A n c, v = .slice A n c ∧ n ≤ c ∧ (0 < n → ∃ b o, A = some ⟨b, o, none⟩ ∧ b < w.heap.size ∧ ∀ i, i < n → ∃ u m y, w.cell? ⟨b, o + i, none⟩ = some u ∧ DataW.trod enc P w base (fun _ => true) held m e [u] = some y) := by
 rcases Go.Deep.open_slice ht h with ⟨h0, _⟩ | ⟨a, len, cap, m, n, D, Pl, hcs, hbb, hl, hm, hmm, hx, hi⟩
 · injection h0 with h0
   exact ⟨none, 0, 0, h0, Nat.le_refl _, fun h => absurd h (by omega)⟩
 · injection hcs with hcs
   subst hcs
   have hread : ∀ i, i < len → ∃ u m y, w.cell? (a.add i) = some u ∧ DataW.trod enc P w base (fun _ => true) held m e [u] = some y := by
     intro i hil
     obtain ⟨cs', hc, ht'⟩ := hi i (by rw [hmm]; simp; omega)
     rw [hC] at hc
     obtain ⟨h1, h2, h3⟩ := World.cells?_some hc
     match cs', h2 with
     | [u], _ =>
       have h4 := h3 0 (by omega)
       rw [addr_add_add, Nat.mul_one] at h4
       exact ⟨u, _, _, h4, ht'⟩
   refine ⟨some a, len, cap, rfl, hl, fun hp => ?_⟩
   obtain ⟨b, o, sp⟩ := a
   obtain ⟨u0, m0, y0, h0, -⟩ := hread 0 hp
   have hsp : sp = none := by
     cases sp with
     | none => rfl
     | some s =>
       exfalso
       simp only [World.cell?, Addr.add] at h0
       split at h0 <;> simp at h0
   subst hsp
   refine ⟨b, o, rfl, cell_lt (p := ⟨b, o, none⟩) (by have h9 := h0; rw [add_lit] at h9; simpa using h9), fun i hil => ?_⟩
   obtain ⟨u, m1, y, h1, h2⟩ := hread i hil
   rw [add_lit] at h1
   exact ⟨u, m1, y, h1, h2⟩
theorem gl_mk {n i : Nat} (h : i < n) (f : Nat → List Sp.Xp) : Sp.gl ((List.range n).map f) i = f i := by simp [Sp.gl, h]
theorem gx_mk {n i : Nat} (h : i < n) (f : Nat → Sp.Xp) : Sp.gx ((List.range n).map f) i = f i := by simp [Sp.gx, h]
theorem gs_mk {n i : Nat} (h : i < n) (f : Nat → Sp.Vs) : Sp.gs ((List.range n).map f) i = f i := by simp [Sp.gs, h]
end
theorem cells5 {cs : List Value} {z0 z1 z2 z3 z4 : Int} (hl : cs.length = 5) (h0 : (cs.drop 0).take 1 = [.int .i64 z0]) (h1 : (cs.drop 1).take 1 = [.int .i64 z1]) (h2 : (cs.drop 2).take 3 = [.int .i64 z2, .int .i64 z3, .int .i64 z4]) : cs = [z0, z1, z2, z3, z4].map (Value.int .i64) := by
 match cs, hl with
 | [a, b, c, d, e], _ => simp at h0 h1 h2; simp [h0, h1, h2]
theorem cells4' {cs : List Value} {z0 z1 z2 z3 : Int} (hl : cs.length = 4) (h0 : (cs.drop 0).take 1 = [.int .i64 z0]) (h1 : (cs.drop 1).take 1 = [.int .i64 z1]) (h2 : (cs.drop 2).take 2 = [.int .i64 z2, .int .i64 z3]) : cs = [z0, z1, z2, z3].map (Value.int .i64) := by
 match cs, hl with
 | [a, b, c, d], _ => simp at h0 h1 h2; simp [h0, h1, h2]
theorem cells2 {cs : List Value} {z0 z1 : Int} (hl : cs.length = 2) (h0 : (cs.drop 0).take 1 = [.int .i64 z0]) (h1 : (cs.drop 1).take 1 = [.int .i64 z1]) : cs = [z0, z1].map (Value.int .i64) := by
 match cs, hl with
 | [a, b], _ => simp at h0 h1; simp [h0, h1]
theorem i64_fit {z : Int} (h : (Lit.int .i64 z).wf = true) : wrap64 z = z := by
 have h : IntKind.min .i64 ≤ z ∧ z ≤ IntKind.max .i64 := by simpa [Lit.wf] using h
 have e1 : IntKind.min .i64 = -9223372036854775808 := by decide
 have e2 : IntKind.max .i64 = 9223372036854775807 := by decide
 rw [e1, e2] at h
 exact IntWalk.wrap64_in _ h
theorem slice_len {H : Type} {enc : TypeId × Value → H} {P : Program} {w : World} {base : Nat} {held : Bool} {t e : TypeId} {fuel : Nat} {A : Option Addr} {n c : Nat} {x : DataW H × List MemPlace} (ht : P.underlying t = some (.slice e))
   (h : DataW.trod enc P w base (fun _ => true) held fuel t [.slice A n c] = some x) : n ≤ 9223372036854775807 := by
 rcases Go.Deep.open_slice ht h with ⟨h0, _⟩ | ⟨a, len, cap, m, k, D, Pl, hcs, hbb, hl, hm, hmm, hx, hi⟩
 · injection h0 with h0
   injection h0 with h1 h2 h3
   omega
 · injection hcs with hcs
   injection hcs with h1 h2 h3
   unfold maxLen at hm
   omega
end Go.Df
namespace Go.Proofs.YtincpmdldpakkaaGreatDoor
open Go.RowKit Go.ChangeShapes Go.WideShapes Go.Joins Go.Df Go.Df.Iv
theorem hc1 : Tryz.prog.cellsOf 3 = 1 := by kernel_rfl
theorem hc1' : Tryz.prog.cellsOf 2 = 1 := by kernel_rfl
section
variable {H : Type} {enc : TypeId × Value → H} {w : World} {base : Nat} {held : Bool}
theorem open_value (n : Nat) (cs' : List Value) (y : DataW H × List MemPlace) (h : DataW.trod enc Tryz.prog w base (fun _ => true) held n 46 cs' = some y) : ∃ z0 z1 : Int, cs' = [z0, z1].map (Value.int .i64) ∧ (Lit.int .i64 z0).wf = true ∧ (Lit.int .i64 z1).wf = true ∧ y.1 = .agg [.lit (.int .i64 z0), .lit (.int .i64 z1)] := by
 obtain ⟨y0, y1, m, hx, hl, h0, h1⟩ := Go.ChangeShapes.trod_struct2 Tryz.underlying46 h
 obtain ⟨z0, e0, f0, w0⟩ := DataW.trod_int Tryz.underlying3 h0
 obtain ⟨z1, e1, f1, w1⟩ := DataW.trod_int Tryz.underlying2 h1
 have hc3 : Tryz.prog.cellsOf 46 = 2 := by kernel_rfl
 rw [hc3] at hl
 dsimp only at e0 e1
 rw [hc1] at e0
 rw [hc1'] at e1
 exact ⟨z0, z1, cells2 hl e0 e1, w0, w1, by rw [hx, f0, f1]⟩
theorem open_xform (n : Nat) (cs' : List Value) (y : DataW H × List MemPlace) (h : DataW.trod enc Tryz.prog w base (fun _ => true) held n 71 cs' = some y) : ∃ z0 z1 z2 : Int, cs' = [z0, z1, z2].map (Value.int .i64) ∧ (Lit.int .i64 z0).wf = true ∧ (Lit.int .i64 z1).wf = true ∧ (Lit.int .i64 z2).wf = true ∧ y.1 = .agg [.lit (.int .i64 z0), .lit (.int .i64 z1), .lit (.int .i64 z2)] := by
 obtain ⟨y0, y1, y2, m, hx, hl, h0, h1, h2⟩ := Go.Deep.trod_struct3 Tryz.underlying71 h
 obtain ⟨z0, e0, f0, w0⟩ := DataW.trod_int Tryz.underlying3 h0
 obtain ⟨z1, e1, f1, w1⟩ := DataW.trod_int Tryz.underlying2 h1
 obtain ⟨z2, e2, f2, w2⟩ := DataW.trod_int Tryz.underlying2 h2
 have hc3 : Tryz.prog.cellsOf 71 = 3 := by kernel_rfl
 rw [hc3] at hl
 dsimp only at e0 e1 e2
 rw [hc1] at e0
 rw [hc1'] at e1 e2
 exact ⟨z0, z1, z2, cells3 hl e0 e1 e2, w0, w1, w2, by rw [hx, f0, f1, f2]⟩
theorem open_xpair (n : Nat) (cs' : List Value) (y : DataW H × List MemPlace) (h : DataW.trod enc Tryz.prog w base (fun _ => true) held n 125 cs' = some y) : ∃ zs : List Int, cs' = zs.map (Value.int .i64) ∧ ∀ q, q < 5 → (Lit.int .i64 (gi zs q)).wf = true := by
 obtain ⟨y0, y1, y2, m, -, hl, h0, h1, h2⟩ := Go.Deep.trod_struct3 Tryz.underlying125 h
 obtain ⟨z0, e0, -, w0⟩ := DataW.trod_int Tryz.underlying3 h0
 obtain ⟨z1, e1, -, w1⟩ := DataW.trod_int Tryz.underlying3 h1
 obtain ⟨z2, z3, z4, e2, w2, w3, w4, -⟩ := open_xform _ _ _ h2
 have hc3 : Tryz.prog.cellsOf 125 = 5 := by kernel_rfl
 have hcx : Tryz.prog.cellsOf 71 = 3 := by kernel_rfl
 rw [hc3] at hl
 dsimp only at e0 e1 e2
 rw [hc1] at e0 e1
 rw [hcx] at e2
 refine ⟨[z0, z1, z2, z3, z4], cells5 hl e0 e1 e2, fun q hq => ?_⟩
 match q, hq with
 | 0, _ => exact w0
 | 1, _ => exact w1
 | 2, _ => exact w2
 | 3, _ => exact w3
 | 4, _ => exact w4
theorem open_vseed (n : Nat) (cs' : List Value) (y : DataW H × List MemPlace) (h : DataW.trod enc Tryz.prog w base (fun _ => true) held n 80 cs' = some y) : ∃ zs : List Int, cs' = zs.map (Value.int .i64) ∧ ∀ q, q < 4 → (Lit.int .i64 (gi zs q)).wf = true := by
 obtain ⟨y0, y1, y2, m, -, hl, h0, h1, h2⟩ := Go.Deep.trod_struct3 Tryz.underlying80 h
 obtain ⟨z0, e0, -, w0⟩ := DataW.trod_int Tryz.underlying3 h0
 obtain ⟨z1, e1, -, w1⟩ := DataW.trod_int Tryz.underlying3 h1
 obtain ⟨z2, z3, e2, w2, w3, -⟩ := open_value _ _ _ h2
 have hc3 : Tryz.prog.cellsOf 80 = 4 := by kernel_rfl
 have hcx : Tryz.prog.cellsOf 46 = 2 := by kernel_rfl
 rw [hc3] at hl
 dsimp only at e0 e1 e2
 rw [hc1] at e0 e1
 rw [hcx] at e2
 refine ⟨[z0, z1, z2, z3], cells4' hl e0 e1 e2, fun q hq => ?_⟩
 match q, hq with
 | 0, _ => exact w0
 | 1, _ => exact w1
 | 2, _ => exact w2
 | 3, _ => exact w3
theorem open_flows {fuel : Nat} {v : Value} {x : DataW H × List MemPlace} (h : DataW.trod enc Tryz.prog w base (fun _ => true) held fuel 26 [v] = some x) : ∃ A n c ls, v = .slice A n c ∧ Fls w A n ls ∧ (∀ k, ∀ q ∈ Sp.gl ls k, wrap64 q.b = q.b ∧ wrap64 q.c = q.c) ∧ ∀ b o i Ai ni ci, A = some ⟨b, o, none⟩ → i < n → w.cell? ⟨b, o + i, none⟩ = some (.slice Ai ni ci) → ni ≤ ci := by
 obtain ⟨A, n, c, rfl, -, hrow⟩ := open_rowsC Tryz.underlying26 (by kernel_rfl) h
 have hex : ∀ i, ∃ l : List Sp.Xp, (∀ q ∈ l, wrap64 q.b = q.b ∧ wrap64 q.c = q.c) ∧ ∀ b o, A = some ⟨b, o, none⟩ → i < n → ∃ Ai ni ci, w.cell? ⟨b, o + i, none⟩ = some (.slice Ai ni ci) ∧ ni ≤ ci ∧ Xps w Ai ni l := by
   intro i
   by_cases hi : i < n
   · obtain ⟨b, o, rfl, hb, hc⟩ := hrow (by omega)
     obtain ⟨u, m, y, h1, h2⟩ := hc i hi
     obtain ⟨Ai, ni, ci, g, rfl, hni, k1, k2⟩ := open_rowsI Tryz.underlying76 (k := 5) (by kernel_rfl) (by omega) open_xpair h2
     refine ⟨(List.range ni).map (fun j => ⟨g j 0, g j 1, g j 2, g j 3, g j 4⟩), fun q hq => ?_, fun b' o' e' _ => ?_⟩
     · obtain ⟨j, hj, rfl⟩ := List.mem_map.1 hq
       have hj := List.mem_range.1 hj
       exact ⟨i64_fit (k2 j hj 3 (by omega)), i64_fit (k2 j hj 4 (by omega))⟩
     injection e' with e'
     injection e' with e1 e2
     subst e1 e2
     refine ⟨Ai, ni, ci, h1, hni, by simp, fun h0 => ?_⟩
     obtain ⟨b2, o2, rfl, hl2, hc2⟩ := k1 h0
     refine ⟨b2, o2, rfl, hl2, fun j hj => ?_⟩
     rw [gx_mk hj]
     exact ⟨hc2 j hj 0 (by omega), hc2 j hj 1 (by omega), hc2 j hj 2 (by omega), hc2 j hj 3 (by omega), hc2 j hj 4 (by omega)⟩
   · exact ⟨[], (fun _ h => by cases h), fun _ _ _ h => absurd h hi⟩
 refine ⟨A, n, c, (List.range n).map (fun i => (hex i).choose), rfl, ⟨by simp, fun h0 => ?_⟩, fun k q hq => ?_, fun b o i Ai ni ci hA hi hc => ?_⟩
 · obtain ⟨b, o, rfl, hb, -⟩ := hrow h0
   refine ⟨b, o, rfl, hb, fun i hi => ?_⟩
   rw [gl_mk hi]
   obtain ⟨Ai, ni, ci, h1, -, h3⟩ := (hex i).choose_spec.2 b o rfl hi
   exact ⟨Ai, ni, ci, h1, h3⟩
 · by_cases hk : k < n
   · rw [gl_mk hk] at hq
     exact (hex k).choose_spec.1 q hq
   · have e : Sp.gl ((List.range n).map (fun i => (hex i).choose)) k = [] := by simp [Sp.gl, hk]
     rw [e] at hq
     cases hq
 · obtain ⟨Ai', ni', ci', h1, h2, -⟩ := (hex i).choose_spec.2 b o hA hi
   have h9 := h1.symm.trans hc
   injection h9 with h9
   injection h9 with e1 e2 e3
   omega
theorem open_seeds {fuel : Nat} {v : Value} {x : DataW H × List MemPlace} (h : DataW.trod enc Tryz.prog w base (fun _ => true) held fuel 27 [v] = some x) : ∃ A n c sd, v = .slice A n c ∧ n ≤ c ∧ n ≤ 9223372036854775807 ∧ Vss w A n sd ∧ ∀ s ∈ sd, wrap64 s.v = s.v := by
 obtain ⟨A, n, c, g, rfl, hnc, k1, k2⟩ := open_rowsI Tryz.underlying27 (k := 4) (by kernel_rfl) (by omega) open_vseed h
 have hn := slice_len Tryz.underlying27 h
 refine ⟨A, n, c, (List.range n).map (fun j => ⟨g j 0, g j 1, g j 2, g j 3⟩), rfl, hnc, hn, ⟨by simp, fun h0 => ?_⟩, fun s hs => ?_⟩
 · obtain ⟨b2, o2, rfl, hl2, hc2⟩ := k1 h0
   refine ⟨b2, o2, rfl, hl2, fun j hj => ?_⟩
   rw [gs_mk hj]
   exact ⟨hc2 j hj 0 (by omega), hc2 j hj 1 (by omega), hc2 j hj 2 (by omega), hc2 j hj 3 (by omega)⟩
 · obtain ⟨j, hj, rfl⟩ := List.mem_map.1 hs
   exact i64_fit (k2 j (List.mem_range.1 hj) 3 (by omega))
set_option maxRecDepth 100000 in
/-- A problem that came in. -/
theorem open_vp {r : Reach} {b0 : Nat} {v : Value} {d : DataW H} {p : List MemPlace} (hv : Value.okWide Tryz.prog w r b0 29 v) (h : DataW.Trod enc Tryz.prog w base (fun _ => true) held 29 v d p) :
   ∃ A1 n1 c1 A2 n2 c2 A3 n3 c3 A4 n4 c4, ∃ q : Vb, v = .agg #[.slice A1 n1 c1, .slice A2 n2 c2, .int .i64 q.mn, .int .i64 q.F, .slice A3 n3 c3, .slice A4 n4 c4] ∧ Gr w A1 n1 A2 n2 q.ns q.es ∧ Fls w A3 n3 q.fl ∧ Vss w A4 n4 q.sd ∧ n4 ≤ c4 ∧ n4 ≤ 9223372036854775807 ∧ (n4 ≤ 1000000 → Lies q A1 A2 A3 A4 n1 n2 n3 n4 w) := by
 obtain ⟨cs, rfl, hsz⟩ := okWide_struct Tryz.underlying29 hv
 have hC : Tryz.prog.cellsOf 29 = 6 := by kernel_rfl
 have hS : Tryz.prog.cellsOf 25 = 3 := by kernel_rfl
 have hF : Tryz.prog.cellsOf 26 = 1 := by kernel_rfl
 have hV : Tryz.prog.cellsOf 27 = 1 := by kernel_rfl
 have hN : Tryz.prog.cellsOf 22 = 1 := by kernel_rfl
 have hE : Tryz.prog.cellsOf 23 = 1 := by kernel_rfl
 rw [hC] at hsz
 obtain ⟨l⟩ := cs
 match l, hsz with
 | [v0, v1, v2, v3, v4, v5], _ =>
 obtain ⟨fuel, hf⟩ := h
 obtain ⟨y0, y1, y2, y3, m, -, -, h0, h1, h2, h3⟩ := trod_struct4 Tryz.underlying29 hf
 simp only [Value.cells, hS, hc1, hF, hV, List.drop_zero, List.drop_succ_cons, List.take_succ_cons, List.take_zero] at h0 h1 h2 h3
 obtain ⟨x0, x1, x2, m', -, -, g0, g1, g2⟩ := Go.Deep.trod_struct3 Tryz.underlying25 h0
 simp only [hN, hE, hc1, List.drop_zero, List.drop_succ_cons, List.take_succ_cons, List.take_zero] at g0 g1 g2
 obtain ⟨A1, n1, c1, A2, n2, c2, ns, es, rfl, rfl, hg⟩ := open_gr g0 g1
 obtain ⟨mn, e2, -, -⟩ := DataW.trod_int Tryz.underlying3 g2
 injection e2 with e2
 subst e2
 obtain ⟨F, e3, -, -⟩ := DataW.trod_int Tryz.underlying3 h1
 injection e3 with e3
 subst e3
 obtain ⟨A3, n3, c3, ls, rfl, hfl, hf1, hf2⟩ := open_flows h2
 obtain ⟨A4, n4, c4, sd, rfl, hnc, hn4, hsd, hs1⟩ := open_seeds h3
 exact ⟨A1, n1, c1, A2, n2, c2, A3, n3, c3, A4, n4, c4, ⟨ns, es, mn, F, ls, sd⟩, rfl, hg, hfl, hsd, hnc, hn4, fun h4 => ⟨hg.nd, hg.ed, hfl, hsd, hf2, hg.wn, hg.we, ⟨hf1, hs1⟩, h4⟩⟩
end
theorem shiftNamed : Tryz.prog.globalNamed "dataflow/ide.shift" = some 0 := by kernel_rfl
theorem shiftType : (Tryz.prog.globals[0]?).map (·.type) = some 71 := by kernel_rfl
theorem gv_of_laid {W : World} (h : laidMetH Tryz.prog [("dataflow/ide.shift", Rows.laid_dataflow_ide_shift)] W) : Gv W := by
 have h' : laidMet Tryz.prog [("dataflow/ide.shift", Rows.laid_dataflow_ide_shift)] W := h
 obtain ⟨ps, ⟨g, t, cs, fuel, p, q, hg, ht, hvar, hd, _, _⟩, _⟩ := h'
 obtain rfl := Option.some.inj (shiftNamed.symm.trans hg)
 obtain rfl := Option.some.inj (shiftType.symm.trans ht)
 obtain ⟨z0, z1, z2, e, -, -, -, hy⟩ := open_xform _ _ _ hd
 have e0 : z0 = 2 ∧ z1 = 0 ∧ z2 = 0 := by
   simp [Rows.laid_dataflow_ide_shift] at hy
   omega
 obtain ⟨rfl, rfl, rfl⟩ := e0
 obtain ⟨l⟩ := cs
 have e' : l = [(2 : Int), 0, 0].map (Value.int .i64) := e
 subst e'
 have c0 := World.var?_cell hg hvar 0
 have c1 := World.var?_cell hg hvar 1
 have c2 := World.var?_cell hg hvar 2
 exact ⟨c0, c1, c2, cell_lt (p := ⟨0, 0, none⟩) c0⟩
noncomputable def laidWorld (os : Os) : World :=
 let w0 := World.holding Tryz.prog os ⟨#[], #[], []⟩
 { w0 with heap := w0.heap.modify 0 fun
     | .cells _ t frozen => .cells #[.int .i64 2, .int .i64 0, .int .i64 0] t frozen
     | o => o }
theorem laidWorld_met (os : Os) (args : Array Value) : laidMetH Tryz.prog [("dataflow/ide.shift", Rows.laid_dataflow_ide_shift)] ((laidWorld os).forCall (fun _ _ => 0) ⟨#[], args, []⟩).memory :=
 laidMetH_of_parts (laidMet_of_run' 8 (by kernel_rfl) (by kernel_rfl)) (by kernel_rfl)
end Go.Proofs.YtincpmdldpakkaaGreatDoor
namespace Go.Proofs.YtincpmdldpakkaaGreatDoor
open Go.RowKit
theorem Tryz.own : ownKnob Tryz.prog.godebug = none := by kernel_rfl
theorem Tryz.closed : (List.range Tryz.prog.types.size).all (Go.Df.closedB Tryz.prog Tryz.prog.types.size) = true := by kernel_rfl
end Go.Proofs.YtincpmdldpakkaaGreatDoor
