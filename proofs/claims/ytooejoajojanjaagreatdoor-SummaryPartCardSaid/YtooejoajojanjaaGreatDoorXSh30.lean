/- Texts: Vi. -/
import Derived.Test.YtooejoajojanjaaGreatDoorXSh29
namespace Go.Proofs.YtooejoajojanjaaGreatDoor
open Go.RowKit Go.Df Go.Df.If
attribute [local go_sem ↓] Go.wp_at_zero Go.wp_at_succ
theorem only_is (A B : Option Addr) (n c m d k0 : Nat) (l r : List Pr) (a : List Int) (w : World) (hA : Prs w A n l) (hB : Ints w B m a) (hn : n ≤ 100000) (hm : m ≤ 100000) (hr : onlyF l a = r) (hk : r.length = k0) :
   Calls Tryz.prog 33 #[.slice A n c, .slice B m d] w fun e w' => ∃ A' c', e = .returned (.slice A' k0 c') ∧ Prs w' A' k0 r ∧ Below w.heap.size w w' :=
 (only_any A B n c m d l a w hA hB hn hm).mono fun e w' ⟨A', k, c', he, hp, _, hb⟩ => by
   rw [hr] at hp
   obtain rfl : k0 = k := hk.symm.trans hp.1
   exact ⟨A', c', he, hp, hb⟩
set_option maxRecDepth 100000 in
set_option maxHeartbeats 16000000 in
theorem sumPart_any {p : Pb} (A1 A2 A3 A4 : Option Addr) (n1 c1 n2 c2 n3 c3 n4 c4 : Nat) (w : World) (hG : Gr w A1 n1 A2 n2 p.ns p.es) (hF : Flw w A3 n3 p.fl) (hS : Sds w A4 n4 p.sd) (hE : Env w) :
   Calls Tryz.prog 9 #[.agg #[.slice A1 n1 c1, .slice A2 n2 c2, .int .i64 p.mn, .int .i64 p.F, .slice A3 n3 c3, .slice A4 n4 c4]] w fun e w' => e = .returned (.bool true) ∧ Below w.heap.size w w' := by
 have HG := Lib.hid hG
 have HF := Lib.hid hF
 have HS := Lib.hid hS
 have HE := Lib.hid hE
 clear hG hF hS hE
 go_enter Tryz.func9, Tryz.ntmps9
 go_upto_region 1 with fail
 refine wp_named (fun W => ∃ b0, w.heap.size = b0 ∧ Blk W b0 [.slice A1 n1 c1, .slice A2 n2 c2, .int .i64 p.mn, .int .i64 p.F, .slice A3 n3 c3, .slice A4 n4 c4] ∧ Below w.heap.size w W) ⟨_, rfl, ?_, ?_⟩ ?_
 · exact kbn
 · go_grown
 rintro W ⟨b0, e0, B0, hB⟩
 rw [e0]
 have G0 : w.heap.size ≤ b0 := by omega
 clear e0
 have ⟨L0, C0, F0⟩ := B0
 have HB0 := Lib.hid B0
 go_wp2_with fail
 refine (small35p_any A1 A2 A3 A4 n1 c1 n2 c2 n3 c3 n4 c4 p.mn p.F p.fl _ (HF.out.later hB)).mono ?_
 rintro e w1 ⟨⟨b, rfl, hsm⟩, hb1⟩
 have hk1 : Kept [] W w1 := (Kept.refl _ _).call hb1
 have ⟨L01, C01, F01⟩ := hk1.blk (by simp) HB0.out
 have hB1 : Below w.heap.size w w1 := hk1.below hB hB.size (by simp)
 clear C0 F0
 cases b with
 | false =>
   go_wp2_with fail
   go_ret
   exact ⟨rfl, hB1⟩
 | true =>
 obtain ⟨hn40, -, hF8, -, hn20⟩ := hsm rfl
 obtain ⟨pe, hpe⟩ : ∃ pe, pbErr p = pe := ⟨_, rfl⟩
 have HPE : Hid (pbErr ⟨p.ns, p.es, p.mn, p.F, p.fl, p.sd⟩ = pe) := Lib.hid hpe
 have HPB := Lib.hid hpe
 clear hsm hpe
 go_wp2_with fail
 refine (rifdsck_any A1 A2 A3 A4 n1 c1 n2 c2 n3 c3 n4 c4 p.mn p.F p.ns p.es p.fl p.sd _ (HG.out.nd.later hB1) (HG.out.ed.later hB1) (HF.out.later hB1) (HS.out.later hB1) (by omega) HG.out.wn HG.out.we).mono ?_
 rw [HPE.out]
 rintro e w2 ⟨rfl, hb2⟩
 have hk12 : Kept [] w1 w2 := (Kept.refl _ _).call hb2
 have hkW2 : Kept [] W w2 := keptTrans hk1 hk12
 have ⟨L02, C02, F02⟩ := hkW2.blk (by simp) HB0.out
 have hB2 : Below w.heap.size w w2 := hk12.below hB1 hB1.size (by simp)
 clear C01 F01
 by_cases h0 : pe = 0
 case neg =>
   have h0' : (pe != 0) = true := by simpa using h0
   clear h0
   go_wp2_with fail
   go_ret
   exact ⟨rfl, hB2⟩
 subst h0
 have HO := Lib.hid (ok_of HPB.out)
 have hmain := main_in (sup_parts HO.out.sup).2.2.1
 obtain ⟨mN, hmN⟩ := Int.eq_ofNat_of_zero_le hmain.1
 obtain ⟨Fn, hFn⟩ := Int.eq_ofNat_of_zero_le (show 0 ≤ p.F by have := HO.out.f1; omega)
 have HMN := Lib.hid hmN
 have HFN := Lib.hid hFn
 have HFR := Lib.hid (fulA_rows hF8)
 have HFL := Lib.hid (fulA_len p)
 have HNN : Hid (p.ns.length = n1) := Lib.hid HG.out.nd.1
 have HC1 := Lib.hid (pfull_any A1 A2 A3 A4 n1 c1 n2 c2 n3 c3 n4 c4 w2 (HG.out.later hB2) (HF.out.later hB2) (HS.out.later hB2) (by omega) hF8)
 rw [HPB.out] at HC1
 have HR1 := Lib.hid (fun (w3 : World) (hk : Below w.heap.size w w3) => show Calls Tryz.prog 29 #[.agg #[.slice A1 n1 c1, .slice A2 n2 c2, .int .i64 p.mn, .int .i64 p.F, .slice A3 n3 c3, .slice A4 n4 c4]] w3 fun e w' => ∃ A k c, e = .returned (.tuple #[.slice A k c, .int .i64 0]) ∧ Sums w' A k (sumI p n1) ∧ Below w3.heap.size w3 w' by
   have h9 := rsums_ok (p := p) A1 A2 A3 A4 n1 c1 n2 c2 n3 c3 n4 c4 mN Fn w3 (HG.out.later hk) ⟨(HG.out.later hk).nd, (HG.out.later hk).ed, HF.out.later hk, HS.out.later hk, HFN.out, HMN.out, HO.out, by omega⟩
   rw [← HMN.out, ← HFN.out] at h9
   exact h9)
 have HR2 := Lib.hid (fun (w3 : World) (hk : Below w.heap.size w w3) => show Calls Tryz.prog 30 #[.agg #[.slice A1 n1 c1, .slice A2 n2 c2, .int .i64 p.mn, .int .i64 p.F, .slice A3 n3 c3, .slice A4 n4 c4]] w3 fun e w' => ∃ A cA, e = .returned (.tuple #[.slice A n1 cA, .int .i64 0]) ∧ Flw w' A n1 ((List.range n1).map (pairL p)) ∧ Below w3.heap.size w3 w' by
   have h9 := rpaths_ok (p := p) A1 A2 A3 A4 n1 c1 n2 c2 n3 c3 n4 c4 mN Fn w3 (HG.out.later hk) ⟨(HG.out.later hk).nd, (HG.out.later hk).ed, HF.out.later hk, HS.out.later hk, HFN.out, HMN.out, HO.out, by omega⟩
   rw [← HMN.out, ← HFN.out] at h9
   exact h9)
 have HLEN : Hid (∀ x, (pairL p x).length ≤ 64) := Lib.hid (fun x => by
   have h1 := pairL_len HO.out (F := p.F.toNat) rfl x
   have h2 : p.F.toNat ≤ 8 := by omega
   have h3 : p.F.toNat * p.F.toNat ≤ 8 * 8 := Nat.mul_le_mul h2 h2
   omega)
 have HSL : Hid (∀ i, i < (sumI p n1).length → (gS (sumI p n1) i).x.length ≤ 64 ∧ (gS (sumI p n1) i).y.length ≤ 64) := Lib.hid (fun i hi => by
   obtain ⟨j, -, -, e⟩ := sumI_mem n1 _ (gS_mem7 hi)
   rw [e]
   exact ⟨HLEN.out _, HLEN.out _⟩)
 have HSN := Lib.hid (sumI_len p n1)
 have HPT : Hid (∀ i k, i < (sumI p n1).length → k < (fulA p).length → (gS (fulA p) k).f = (gS (sumI p n1) i).f → onlyF (gS (fulA p) k).x (startsF p (gS (fulA p) k).f n1) = (gS (sumI p n1) i).x ∧ onlyF (gS (fulA p) k).y (startsF p (gS (fulA p) k).f n1) = (gS (sumI p n1) i).y) := Lib.hid (fun i k hi hk hf => by
   rw [← HNN.out] at hi hf ⊢
   exact part_sum HPB.out hi hk hf)
 obtain ⟨L, hL⟩ : ∃ L, fulA p = L := ⟨_, rfl⟩
 obtain ⟨M, hM⟩ : ∃ M, sumI p n1 = M := ⟨_, rfl⟩
 rw [hL] at HC1 HFR HFL HPT
 rw [hM] at HR1 HSL HSN HPT
 clear hmain hmN hFn hL hM
 go_upto_region 4 with (go_at_call 26; refine HC1.out.mono ?_; rintro e w3 ⟨Ap, kp, cp, rfl, hkp, hp3, hb3⟩; have HP3 := Lib.hid hp3; clear hp3)
 have hk23 : Kept [] w2 w3 := (Kept.refl _ _).call hb3
 have hkW3 : Kept [] W w3 := keptTrans hkW2 hk23
 have ⟨L03, C03, F03⟩ := hkW3.blk (by simp) HB0.out
 have hB3 : Below w.heap.size w w3 := hk23.below hB2 hB2.size (by simp)
 clear C02 F02
 go_upto_region 7 with (go_at_call 29; refine (HR1.out _ hB3).mono ?_; rintro e w4 ⟨Aq, kq, cq, rfl, hq4, hb4⟩; have HQ4 := Lib.hid hq4.smw; clear hq4)
 have hk34 : Kept [] w3 w4 := (Kept.refl _ _).call hb4
 have hkW4 : Kept [] W w4 := keptTrans hkW3 hk34
 have ⟨L04, C04, F04⟩ := hkW4.blk (by simp) HB0.out
 have hB4 : Below w.heap.size w w4 := hk34.below hB3 hB3.size (by simp)
 clear C03 F03
 go_upto_region 9 with (go_at_call 30; refine (HR2.out _ hB4).mono ?_; rintro e w5 ⟨At, ct9, rfl, ht5, hb5⟩; have HT5 := Lib.hid ht5; clear ht5)
 have hk45 : Kept [] w4 w5 := (Kept.refl _ _).call hb5
 have hkW5 : Kept [] W w5 := keptTrans hkW4 hk45
 have HB05 := Lib.hid (hkW5.blk (by simp) HB0.out)
 have hB5 : Below w.heap.size w w5 := hk45.below hB4 hB4.size (by simp)
 have hkw5 : Kept [] w w5 := (Kept.refl _ _).call hB5
 have HP5 := Lib.hid (HP3.out.later (keptTrans hk34 hk45).toBelow)
 have HQ5 := Lib.hid (HQ4.out.later hk45.toBelow)
 have hkp9 : kp ≤ 40 := by have h1 := HP3.out.len; have h2 := HFL.out; have h3 := HNN.out; omega
 have hkq9 : kq ≤ 40 := by have h1 := HQ4.out.len; have h2 := HSN.out; omega
 clear C04 F04
 go_wp2_with fail
 go_loopw [9] (fun s9 wr => ∃ i : Nat, i ≤ kq ∧ s9 = .int .i64 i ∧ Kept [] w5 wr) (fun s9 _ => kq - (intOf s9).toNat)
 case atStart => exact ⟨0, Nat.zero_le _, rfl, Kept.refl _ _⟩
 case round =>
 obtain ⟨i, hi, rfl, hkr⟩ := hrel
 by_cases hlt : i < kq
 case neg =>
   obtain rfl : i = kq := by omega
   go_wp2_with (go_at_call 13; refine (knows35_any _ (HE.out.later (hkr.below hB5 hB5.size (by simp)))).mono ?_; rintro e w6 ⟨rfl, hb6⟩)
   go_ret
   exact ⟨rfl, (hkr.call hb6).below hB5 hB5.size (by simp)⟩
 have hi9 : (i : Int) < (kq : Int) := by omega
 have hil : i < M.length := by rw [HQ4.out.len]; exact hlt
 go_wp2_with fail
 go_loopw [10] (fun s10 wz => ∃ k : Nat, k ≤ kp ∧ s10 = .int .i64 k ∧ Kept [] w5 wz) (fun s10 _ => kp - (intOf s10).toNat)
 case atStart => exact ⟨0, Nat.zero_le _, rfl, hkr⟩
 case round =>
 rename World => wz
 obtain ⟨k, hk, rfl, hkz⟩ := hrel
 by_cases hlk : k < kp
 case neg =>
   obtain rfl : k = kp := by omega
   go_wp2_with fail
   exact ⟨⟨i + 1, by omega, by go_num, hkz⟩, by simp [intOf]; omega⟩
 have hk9 : (k : Int) < (kp : Int) := by omega
 have hkl : k < L.length := by rw [HP3.out.len]; exact hlk
 obtain ⟨bp, op, rfl, hlp, hcp⟩ := HP5.out.mem (by omega)
 obtain ⟨bq, oq, rfl, hlq, hcq⟩ := HQ5.out.mem (by omega)
 obtain ⟨E, ne, ce, T, nt, ct, p1, p2, p3, p4, p5⟩ := hcp k hlk
 obtain ⟨E', ne', ce', T', nt', ct', q1, q2, q3, q4, q5⟩ := hcq i hlt
 have hne : ne ≤ 64 ∧ nt ≤ 64 := by have h9 := HFR.out k hkl; rw [p4.1, p5.1] at h9; exact h9
 have hne' : ne' ≤ 64 ∧ nt' ≤ 64 := by have h9 := HSL.out i hil; rw [q4.1, q5.1] at h9; exact h9
 have HPK := Lib.hid (HPT.out i k hil hkl)
 obtain ⟨uf, ux, uy, eu⟩ : ∃ uf ux uy, gS L k = ⟨uf, ux, uy⟩ := ⟨_, _, _, rfl⟩
 obtain ⟨vf, vx, vy, ev⟩ : ∃ vf vx vy, gS M i = ⟨vf, vx, vy⟩ := ⟨_, _, _, rfl⟩
 rw [eu] at p1 p4 p5 HPK
 rw [ev] at q1 q4 q5 HPK
 dsimp only at p1 p4 p5 q1 q4 q5
 have HP1 := Lib.hid p1
 have HP2 := Lib.hid p2
 have HP3' := Lib.hid p3
 have HQ1 := Lib.hid q1
 have HQ2 := Lib.hid q2
 have HQ3 := Lib.hid q3
 have HP6 := Lib.hid p4
 have HP7 := Lib.hid p5
 have HQ6 := Lib.hid q4
 have HQ7 := Lib.hid q5
 have HLP := Lib.hid hlp
 have HLQ := Lib.hid hlq
 have r1 := (hkz.cell bp _ hlp (by simp)).trans p1
 have r4 := (hkz.cell bq _ hlq (by simp)).trans q1
 have l1 : bp < wz.heap.size := Nat.lt_of_lt_of_le hlp hkz.size
 have l2 : bq < wz.heap.size := Nat.lt_of_lt_of_le hlq hkz.size
 clear hcp hcq p1 p2 p3 p4 p5 q1 q2 q3 q4 q5 eu ev hlp hlq
 by_cases e1 : uf = vf
 case neg =>
   have z1 : (uf != vf) = true := by simpa using e1
   clear e1
   go_upto_region 14 with fail
   go_quiet (fail)
   go_wp2_with fail
   exact ⟨⟨k + 1, by omega, by go_num, hkz.drewN _⟩, by simp [intOf]; omega⟩
 subst e1
 have HPX : Hid (onlyF ux (startsF p uf n1) = vx ∧ onlyF uy (startsF p uf n1) = vy) := Lib.hid (HPK.out rfl)
 go_upto_region 14 with fail
 go_quiet (fail)
 go_upto_region 15 with fail
 refine wp_named (fun X => Kept [] wz X) ((Kept.refl [] wz).drewN _) ?_
 rintro wx hkx
 have hk5x : Kept [] w5 wx := keptTrans hkz hkx
 have ⟨L0x, C0x, F0x⟩ := hk5x.blk (by simp) HB05.out
 have r1' := (hk5x.cell bp _ HLP.out (by simp)).trans HP1.out
 have l1' : bp < wx.heap.size := Nat.lt_of_lt_of_le HLP.out hk5x.size
 have HST := Lib.hid (fun (wy : World) (hk : Kept [] wx wy) => starts35_any (p := p) A1 A2 A3 A4 At n1 c1 n2 c2 n3 c3 n4 c4 ct9 p.mn p.F uf wy (HG.out.nd.later (keptTrans hkw5 (keptTrans hk5x hk)).toBelow) (HT5.out.later (keptTrans hk5x hk).toBelow) hn40 HLEN.out)
 clear r1 r4 l1 l2
 refine wp_region_E 8 (fun w' => SX0 wx w') (by kernel_rfl) (by (exact kp0)) (fun hHeld => ?_)
 refine WE_tk 0 ?_
 refine WE_tk 1 ?_
 refine WE_tk 2 ?_
 refine WE_tk 3 ?_
 refine WE_tk 4 ?_
 refine WE_tk 5 ?_
 refine WE_tk 6 ?_
 refine WE_step 7 rfl (by kernel_rfl) (fun K hK => ?_)
 go_simp
 (go_at_call 31; refine (HST.out _ hHeld.1).mono ?_; rintro e w6 ⟨Aa, ka, ca, rfl, hia, hka, hb6⟩; have HIA := Lib.hid hia; clear hia)
 (try go_wp2_with fail)
 refine hK.out _ _ ?_ (fun hHeld => ?_)
 · (exact kp0)
 clear hK K
 refine WE_put ?_
 refine WE_last rfl (by kernel_rfl) (fun K hK => ?_)
 go_simp
 refine hK.out _ _ ?_
 clear hK K
 have hkx6 : Kept [] wx w6 := hHeld.1
 have hk56 : Kept [] w5 w6 := keptTrans hk5x hkx6
 have r2 := (hk56.cell bp _ HLP.out (by simp)).trans HP2.out
 have r3 := (hk56.cell bp _ HLP.out (by simp)).trans HP3'.out
 have r5 := (hk56.cell bq _ HLQ.out (by simp)).trans HQ2.out
 have r6 := (hk56.cell bq _ HLQ.out (by simp)).trans HQ3.out
 have l3 : bp < w6.heap.size := Nat.lt_of_lt_of_le HLP.out hk56.size
 have l4 : bq < w6.heap.size := Nat.lt_of_lt_of_le HLQ.out hk56.size
 have HO1 := Lib.hid (fun (wy : World) (hk : Kept [] w6 wy) => only_is E Aa ne ce ka ca ne' ux vx (startsF p uf n1) wy (HP6.out.later (keptTrans hk56 hk).toBelow) (HIA.out.kept hk) (by omega) (by omega) HPX.out.1 HQ6.out.1)
 have HO2 := Lib.hid (fun (wy : World) (hk : Kept [] w6 wy) => only_is T Aa nt ct ka ca nt' uy vy (startsF p uf n1) wy (HP7.out.later (keptTrans hk56 hk).toBelow) (HIA.out.kept hk) (by omega) (by omega) HPX.out.2 HQ7.out.1)
 clear C0x F0x r1' l1' hHeld
 go_upto_region 16 with fail
 refine wp_region_E 29 (fun w' => SX0 w6 w') (by kernel_rfl) (by (exact kp0)) (fun hHeld => ?_)
 refine WE_tk 0 ?_
 refine WE_tk 1 ?_
 refine WE_tk 2 ?_
 refine WE_tk 3 ?_
 refine WE_tk 4 ?_
 refine WE_tk 5 ?_
 refine WE_tk 7 ?_
 refine WE_tk 8 ?_
 refine WE_tk 9 ?_
 refine WE_tk 10 ?_
 refine WE_tk 11 ?_
 refine WE_step 6 rfl (by kernel_rfl) (fun K hK => ?_)
 go_simp
 (first | (go_at_call 33; with_reducible refine (HO1.out _ hHeld.1).mono ?_; rintro e w7 ⟨A7, c7, rfl, hp7, hb7⟩; have HR7 := Lib.hid hp7; have HK7 : Hid (Kept [] w6 w7) := Lib.hid (hHeld.1.call hb7); clear hp7) | (go_at_call 32; with_reducible refine (psame_eq A7 E' ne' c7 ce' vx _ HR7.out (HQ6.out.later (keptTrans hk56 HK7.out).toBelow) (by omega)).mono ?_; rintro e w8 ⟨rfl, hb8⟩; have HK8 : Hid (Kept [] w6 w8) := Lib.hid (HK7.out.call hb8)) | (go_at_call 33; with_reducible refine (HO2.out _ HK8.out).mono ?_; rintro e w9 ⟨A9, c9, rfl, hp9, hb9⟩; have HR9 := Lib.hid hp9; have HK9 : Hid (Kept [] w6 w9) := Lib.hid (HK8.out.call hb9); clear hp9) | (go_at_call 32; with_reducible refine (psame_eq A9 T' nt' c9 ct' vy _ HR9.out (HQ7.out.later (keptTrans hk56 HK9.out).toBelow) (by omega)).mono ?_; rintro e w10 ⟨rfl, hb10⟩; have HK10 : Hid (Kept [] w6 w10) := Lib.hid (HK9.out.call hb10)))
 (try go_wp2_with fail)
 refine hK.out _ _ ?_ (fun hHeld => ?_)
 · (exact kp0)
 clear hK K
 refine WE_put ?_
 refine WE_step 12 rfl (by kernel_rfl) (fun K hK => ?_)
 go_simp
 (first | (go_at_call 33; with_reducible refine (HO1.out _ hHeld.1).mono ?_; rintro e w7 ⟨A7, c7, rfl, hp7, hb7⟩; have HR7 := Lib.hid hp7; have HK7 : Hid (Kept [] w6 w7) := Lib.hid (hHeld.1.call hb7); clear hp7) | (go_at_call 32; with_reducible refine (psame_eq A7 E' ne' c7 ce' vx _ HR7.out (HQ6.out.later (keptTrans hk56 HK7.out).toBelow) (by omega)).mono ?_; rintro e w8 ⟨rfl, hb8⟩; have HK8 : Hid (Kept [] w6 w8) := Lib.hid (HK7.out.call hb8)) | (go_at_call 33; with_reducible refine (HO2.out _ HK8.out).mono ?_; rintro e w9 ⟨A9, c9, rfl, hp9, hb9⟩; have HR9 := Lib.hid hp9; have HK9 : Hid (Kept [] w6 w9) := Lib.hid (HK8.out.call hb9); clear hp9) | (go_at_call 32; with_reducible refine (psame_eq A9 T' nt' c9 ct' vy _ HR9.out (HQ7.out.later (keptTrans hk56 HK9.out).toBelow) (by omega)).mono ?_; rintro e w10 ⟨rfl, hb10⟩; have HK10 : Hid (Kept [] w6 w10) := Lib.hid (HK9.out.call hb10)))
 (try go_wp2_with fail)
 refine hK.out _ _ ?_ (fun hHeld => ?_)
 · (exact kp0)
 clear hK K
 refine WE_put ?_
 refine WE_tk 13 ?_
 refine WE_tk 14 ?_
 first | (refine WE_tu 15 ?_) | (refine WE_tk 15 ?_)
 first | (refine WE_tu 16 ?_) | (refine WE_tk 16 ?_)
 first | (refine WE_tu 17 ?_) | (refine WE_tk 17 ?_)
 first | (refine WE_tu 18 ?_) | (refine WE_tk 18 ?_)
 first | (refine WE_tu 19 ?_) | (refine WE_tk 19 ?_)
 first | (refine WE_tu 20 ?_) | (refine WE_tk 20 ?_)
 first | (refine WE_tu 22 ?_) | (refine WE_tk 22 ?_)
 first | (refine WE_tu 23 ?_) | (refine WE_tk 23 ?_)
 first | (refine WE_tu 24 ?_) | (refine WE_tk 24 ?_)
 first | (refine WE_tu 25 ?_) | (refine WE_tk 25 ?_)
 first | (refine WE_tu 26 ?_) | (refine WE_tk 26 ?_)
 refine WE_step 21 rfl (by kernel_rfl) (fun K hK => ?_)
 go_simp
 (first | (go_at_call 33; with_reducible refine (HO1.out _ hHeld.1).mono ?_; rintro e w7 ⟨A7, c7, rfl, hp7, hb7⟩; have HR7 := Lib.hid hp7; have HK7 : Hid (Kept [] w6 w7) := Lib.hid (hHeld.1.call hb7); clear hp7) | (go_at_call 32; with_reducible refine (psame_eq A7 E' ne' c7 ce' vx _ HR7.out (HQ6.out.later (keptTrans hk56 HK7.out).toBelow) (by omega)).mono ?_; rintro e w8 ⟨rfl, hb8⟩; have HK8 : Hid (Kept [] w6 w8) := Lib.hid (HK7.out.call hb8)) | (go_at_call 33; with_reducible refine (HO2.out _ HK8.out).mono ?_; rintro e w9 ⟨A9, c9, rfl, hp9, hb9⟩; have HR9 := Lib.hid hp9; have HK9 : Hid (Kept [] w6 w9) := Lib.hid (HK8.out.call hb9); clear hp9) | (go_at_call 32; with_reducible refine (psame_eq A9 T' nt' c9 ct' vy _ HR9.out (HQ7.out.later (keptTrans hk56 HK9.out).toBelow) (by omega)).mono ?_; rintro e w10 ⟨rfl, hb10⟩; have HK10 : Hid (Kept [] w6 w10) := Lib.hid (HK9.out.call hb10)))
 (try go_wp2_with fail)
 refine hK.out _ _ ?_ (fun hHeld => ?_)
 · (exact kp0)
 clear hK K
 refine WE_put ?_
 refine WE_step 27 rfl (by kernel_rfl) (fun K hK => ?_)
 go_simp
 (first | (go_at_call 33; with_reducible refine (HO1.out _ hHeld.1).mono ?_; rintro e w7 ⟨A7, c7, rfl, hp7, hb7⟩; have HR7 := Lib.hid hp7; have HK7 : Hid (Kept [] w6 w7) := Lib.hid (hHeld.1.call hb7); clear hp7) | (go_at_call 32; with_reducible refine (psame_eq A7 E' ne' c7 ce' vx _ HR7.out (HQ6.out.later (keptTrans hk56 HK7.out).toBelow) (by omega)).mono ?_; rintro e w8 ⟨rfl, hb8⟩; have HK8 : Hid (Kept [] w6 w8) := Lib.hid (HK7.out.call hb8)) | (go_at_call 33; with_reducible refine (HO2.out _ HK8.out).mono ?_; rintro e w9 ⟨A9, c9, rfl, hp9, hb9⟩; have HR9 := Lib.hid hp9; have HK9 : Hid (Kept [] w6 w9) := Lib.hid (HK8.out.call hb9); clear hp9) | (go_at_call 32; with_reducible refine (psame_eq A9 T' nt' c9 ct' vy _ HR9.out (HQ7.out.later (keptTrans hk56 HK9.out).toBelow) (by omega)).mono ?_; rintro e w10 ⟨rfl, hb10⟩; have HK10 : Hid (Kept [] w6 w10) := Lib.hid (HK9.out.call hb10)))
 (try go_wp2_with fail)
 refine hK.out _ _ ?_ (fun hHeld => ?_)
 · (exact kp0)
 clear hK K
 refine WE_put ?_
 first | (refine WE_tu 28 ?_) | (refine WE_tk 28 ?_)
 refine WE_last rfl (by kernel_rfl) (fun K hK => ?_)
 go_simp
 refine hK.out _ _ ?_
 clear hK K
 go_wp2_with fail
 exact ⟨⟨k + 1, by omega, by go_num, keptTrans hk56 HK10.out⟩, by simp [intOf]; omega⟩
end Go.Proofs.YtooejoajojanjaaGreatDoor
