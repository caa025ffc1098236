/- A pack of texts: Ne Nf. -/
import Derived.Test.YtmbihjlflcjlnaaGreatNd
import Derived.Test.YtmbihjlflcjlnaaGreatNw
import Derived.Test.YtmbihjlflcjlnaaGreatZj
import Derived.Test.YtmbihjlflcjlnaaGreatJm
import Derived.Test.YtmbihjlflcjlnaaGreatZe
import Derived.Test.YtmbihjlflcjlnaaGreatZv
/- The pairs at a node; the contract of ifds.Paths. -/
namespace Go.Proofs.YtmbihjlflcjlnaaGreat
open Go.RowKit Go.Df Go.Df.If
attribute [local go_sem ↓] Go.wp_at_zero Go.wp_at_succ

set_option maxRecDepth 100000 in
set_option maxHeartbeats 4000000 in
theorem pairs_any {p : Pb} {K : Kn} {w0 : World} {b : Nat} {O : Nat → Prop} {G : Gh} {s : St} (w : World) (n : Nat) (hm : Mem p K w0 b O G w s) (hn : n < K.n1) (ho : Ok p) (hp : ∀ a m d, s.h m a d = true ↔ PE p a m d) :
    Calls Tryz.prog 26 #[.pointer (some ⟨b, 0, none⟩), .int .i64 n] w fun e w' => ∃ A k c, e = .returned (.slice A k c) ∧ k ≤ c ∧ Prs w' A k (pairL p n) ∧ (∀ a, A = some a → w.heap.size ≤ a.block ∧ Tag w' a.block 76) ∧ Below w.heap.size w w' := by
  obtain ⟨i0, hinf0, hz0, hz1, hz2⟩ := info_parts pairi_info
  have HM := Lib.hid hm
  have HO := Lib.hid ho
  have HPE := Lib.hid hp
  have hF8 : p.F.toNat ≤ 1024 := by have := ho.f2; omega
  have HPL : Hid ((pairL p n).length ≤ 1048576) := Lib.hid (Nat.le_trans (pairL_len ho rfl n) (Nat.le_trans (Nat.mul_le_mul hF8 hF8) (by decide)))
  have hcb : G.hc n * 8 ≤ 140737488355328 := by
    have h1 := hm.hcb n hn
    have h2 := trip_len p.ns.length p.F.toNat
    have h3 := (sup_parts ho.sup).1
    have h4 : p.ns.length * (p.F.toNat * p.F.toNat) ≤ 8192 * (1024 * 1024) := Nat.mul_le_mul h3 (Nat.mul_le_mul hF8 hF8)
    omega
  have B0 := hm.box
  unfold sbox at B0
  have ⟨LB, CB, FB⟩ := B0
  have hn' : (n : Int) < (K.n1 : Int) := by omega
  have HB0 := Lib.hid B0
  clear hm ho hp
  go_enter Tryz.func26, Tryz.ntmps26
  go_upto_region 3 with (go_at_call 60; refine (keys_any K.hr K.n1 K.n1 n G.hm G.hc G.hv w HM.out.held hn hcb).mono ?_; rintro e w1 ⟨A1, k1, cc1, ks, rfl, hi1, hk1, hasc, hwf, hin, hb1⟩; have HI1 := Lib.hid hi1; have HASC := Lib.hid hasc; have HWF := Lib.hid hwf; have HIN := Lib.hid hin; clear hi1 hasc hwf hin)
  have hkw1 : Kept [] w w1 := (Kept.refl _ _).call hb1
  have HKL : Hid (ks.length = k1) := Lib.hid HI1.out.1
  have HALL : Hid (pairsBy ks (keyF p n) = pairL p n) := Lib.hid (pairL_keyF HO.out HASC.out (fun a d h => by
    have h1 := (HPE.out a n d).2 h
    have hr := h.rng HO.out
    refine HIN.out _ (WalkArith.wf_i64 (by omega)) fun h2 => ?_
    obtain ⟨A', n', c', l', e1, e2, -, -, -, e3⟩ := HM.out.hbits n a hn
    rw [h2] at e1
    injection e1 with e4 e5 e6
    subst e5
    have h3 : l' = [] := List.eq_nil_of_length_eq_zero e2.1
    subst h3
    rw [← e3, hasB_nil] at h1
    cases h1))
  have B1 := hkw1.blk (by simp) HB0.out
  have ⟨LB1, CB1, FB1⟩ := B1
  have HB1 := Lib.hid B1
  clear CB FB B1
  go_wp2_with fail
  go_loopw [5, 17] (fun s5 s17 wr => ∃ (i : Nat) (A : Option Addr) (k c : Nat), i ≤ k1 ∧ s17 = .int .i64 i ∧ s5 = .slice A k c ∧ Kept [] w1 wr ∧ Hid ((pairsBy (ks.take i) (keyF p n)).length = k) ∧ Hid (wr.ownsRow w1.heap.size 76 2 (.slice A k c) k (prcells (pairsBy (ks.take i) (keyF p n))))) (fun _ s17 _ => k1 - (intOf s17).toNat)
  case atStart => exact ⟨0, none, 0, 0, Nat.zero_le _, rfl, rfl, Kept.refl _ _, Lib.hid rfl, Lib.hid (World.ownsRow_nil _ _ _ _)⟩
  case round =>
  clear CB1 FB1
  obtain ⟨i, A, k, c, hi, rfl, rfl, hkr, HK, OWN⟩ := hrel
  have BR := hkr.blk (by simp) HB1.out
  have ⟨LR, CR, FR⟩ := BR
  have HBR := Lib.hid BR
  have hkwr : Kept [] w wr := keptTrans hkw1 hkr
  by_cases hlt : i < k1
  case neg =>
    obtain rfl : i = k1 := by omega
    have HTK : Hid (ks.take i = ks) := Lib.hid (List.take_of_length_le (by rw [HKL.out]; exact Nat.le_refl _))
    rw [HTK.out, HALL.out] at HK OWN
    clear hlt
    go_wp2_with fail
    go_ret
    obtain ⟨h1, h2⟩ := Prs.own OWN.out HK.out
    exact ⟨A, k, c, rfl, h2, h1, fun a ha => ⟨by have h8 := (own_addr OWN.out ha).1; have h9 := hkw1.size; omega, (own_addr OWN.out ha).2.1⟩, hkwr.toBelow⟩
  obtain ⟨x, hx⟩ : ∃ x, ks[i]? = some x := ⟨_, List.getElem?_eq_getElem (by rw [HKL.out]; exact hlt)⟩
  have hmem := List.mem_of_getElem? hx
  have HWX := Lib.hid (HWF.out x hmem)
  have hpre := pairsBy_pre (f := keyF p n) hx
  rw [HALL.out, HK.out] at hpre
  have HSN := Lib.hid (pairsBy_snoc (f := keyF p n) hx)
  obtain ⟨fl, hfl⟩ : ∃ fl, keyF p n x = fl := ⟨_, rfl⟩
  rw [hfl] at hpre
  have HFL := Lib.hid hfl
  have hfl9 : fl.length ≤ 1024 := by rw [← hfl]; exact keyF_len HO.out n x
  have hkb : k + fl.length ≤ 1048576 := Nat.le_trans hpre HPL.out
  obtain ⟨b1, o1, rfl, hl1, hc1⟩ := (HI1.out.kept hkr).2 (by omega)
  have r1 := hc1 i hlt
  have ex : gi ks i = x := by rw [gi_lt (by rw [HKL.out]; exact hlt)]; rw [List.getElem?_eq_getElem (by rw [HKL.out]; exact hlt)] at hx; exact Option.some.inj hx
  rw [ex] at r1
  have hi9 : (i : Int) < (k1 : Int) := by omega
  have hMr := HM.out.call hkwr.toBelow
  obtain ⟨Av, nv, cv, lv, hev, hbv, hnv, hel⟩ : ∃ Av nv cv lv, G.hv n (.int .i64 x) = .slice Av nv cv ∧ Bts wr Av nv lv ∧ nv ≤ 1024 ∧ ofNats (elemsB lv (nv * 64)) = fl := by
    by_cases hx0 : x < 0
    · refine ⟨none, 0, 0, [], HM.out.hneg n x hn hx0, Bts.nil _, by omega, ?_⟩
      rw [← hfl]
      unfold keyF
      rw [if_pos hx0]
      rfl
    · obtain ⟨a, rfl⟩ := Int.eq_ofNat_of_zero_le (show 0 ≤ x by omega)
      obtain ⟨A', n', c', l', e1, e2, e3, -, -, e4⟩ := hMr.hbits n a hn
      refine ⟨A', n', c', l', e1, e2, e3, ?_⟩
      rw [← e2.1, keyF_bits HO.out (fun y => by rw [e4 y]; exact HPE.out a n y)]
      exact hfl
  have HEV := Lib.hid hev
  have HBV := Lib.hid hbv
  have HEL := Lib.hid hel
  have HMR := Lib.hid hMr
  clear hc1 hx hmem hfl ex hev hbv hel hMr hpre
  go_upto_region 6 with (first
    | (go_at_call 62; refine (getz_any K.hr K.n1 K.n1 n x G.hm G.hc G.hv _ HMR.out.held hn HWX.out).mono ?_; rw [HEV.out]; rintro e w2 ⟨rfl, hb2⟩)
    | (go_at_call 61; refine (blist_any Av nv cv lv _ (HBV.out.kept ((Kept.refl [] _).call hb2)) hnv).mono ?_; rintro e w3 ⟨A3, n3, c3, rfl, hi3, hfr3, hb3⟩; rw [HEL.out] at hi3; have HI3 := Lib.hid hi3; have HFR3 := Lib.hid hfr3; clear hi3 hfr3))
  have hk3 : Kept [] wr w3 := ((Kept.refl [] wr).call hb2).call hb3
  have hk13 : Kept [] w1 w3 := keptTrans hkr hk3
  have HL3 : Hid (fl.length = n3) := Lib.hid HI3.out.1.1
  have OW3 := Lib.hid (own_keptT (X := []) OWN.out hk3 (by simp))
  have HX : Hid (∀ y ∈ (Value.slice A k c).ownBlock.toList, w1.heap.size ≤ y ∧ y < wr.heap.size) := Lib.hid (fun y hy => ⟨own_ge OWN.out (by simpa using hy), own_lt2 OWN.out (by simpa using hy)⟩)
  have hs23 : wr.heap.size ≤ w2.heap.size := hb2.size
  have hbw1 : b < w1.heap.size := HB1.out.1
  have B3 := hk3.blk (by simp) HBR.out
  have ⟨L3, C3, F3⟩ := B3
  have HB3 := Lib.hid B3
  have hn39 : n3 ≤ 1024 := by have := HL3.out; omega
  clear CR FR r1 B3
  go_wp2_with fail
  go_loopw [5, 30] (fun s5 s30 wz => ∃ (j : Nat) (A' : Option Addr) (k' c' : Nat), j ≤ n3 ∧ s30 = .int .i64 j ∧ s5 = .slice A' k' c' ∧ Kept (Value.slice A k c).ownBlock.toList w3 wz ∧ Hid (k' = k + j) ∧ Hid (∀ y, (Value.slice A' k' c').ownBlock = some y → y ∈ (Value.slice A k c).ownBlock.toList ∨ w3.heap.size ≤ y) ∧ Hid (wz.ownsRow w1.heap.size 76 2 (.slice A' k' c') k' (prcells (pairsBy (ks.take i) (keyF p n) ++ (fl.take j).map fun d => ⟨x, d⟩)))) (fun _ s30 _ => n3 - (intOf s30).toNat)
  case atStart => exact ⟨0, A, k, c, Nat.zero_le _, rfl, rfl, Kept.refl _ _, Lib.hid rfl, Lib.hid (fun y hy => .inl (by simpa using hy)), Lib.hid (by simpa using OW3.out)⟩
  case round =>
  clear C3 F3
  rename World => wz
  obtain ⟨j, A', k', c', hj, rfl, rfl, hkz, HKJ, HOX, OWZ⟩ := hrel
  have BZ := hkz.blk (fun h => by have := (HX.out b h).1; omega) HB3.out
  have ⟨LZ, CZ, FZ⟩ := BZ
  have hk1z : Kept [] w1 wz := kept_fresh hk13 hkz (fun y hy => (HX.out y hy).1)
  by_cases hlt2 : j < n3
  case neg =>
    obtain rfl : j = n3 := by omega
    have HTK : Hid (fl.take j = fl) := Lib.hid (List.take_of_length_le (by rw [HL3.out]; exact Nat.le_refl _))
    rw [HTK.out] at OWZ
    have HSN2 : Hid (pairsBy (ks.take (i + 1)) (keyF p n) = pairsBy (ks.take i) (keyF p n) ++ fl.map fun d => ⟨x, d⟩) := Lib.hid (by rw [HSN.out, HFL.out])
    have HFL2 : Hid (fl.length = j) := HL3
    clear hlt2
    go_wp2_with fail
    exact ⟨⟨i + 1, A', k', c', by omega, by go_num, rfl, hk1z, by rw [HSN2.out]; exact Lib.hid (by rw [List.length_append, List.length_map, HK.out, HFL2.out, HKJ.out]), by rw [HSN2.out]; exact OWZ⟩, by simp [intOf]; omega⟩
  obtain ⟨b3, o3, rfl, hl3, hc3⟩ := (HI3.out.keptX hkz (fun _ a ha h => by have h1 := (HFR3.out a ha).1; have h2 := (HX.out _ h).2; omega)).1.2 (by omega)
  obtain ⟨d, hd⟩ : ∃ d, gi fl j = d := ⟨_, rfl⟩
  have r3 := hc3 j hlt2
  rw [hd] at r3
  have hfj : fl[j]? = some d := by rw [List.getElem?_eq_getElem (by rw [HL3.out]; exact hlt2), ← hd, gi_lt (by rw [HL3.out]; exact hlt2)]
  have HSN3 : Hid (prcells (pairsBy (ks.take i) (keyF p n) ++ (fl.take j).map fun d => ⟨x, d⟩) ++ [.int .i64 x, .int .i64 d] = prcells (pairsBy (ks.take i) (keyF p n) ++ (fl.take (j + 1)).map fun d => ⟨x, d⟩)) := Lib.hid (by
    rw [take_snocN hfj, List.map_append, ← List.append_assoc]
    exact prcells_snoc _ ⟨x, d⟩)
  have hj9 : (j : Int) < (n3 : Int) := by omega
  have HXZ : Hid (∀ y ∈ (Value.slice A' k' c').ownBlock.toList, w1.heap.size ≤ y) := (fun y hy => own_ge OWZ.out (by simpa using hy))
  have hkz9 : k' + 1 ≤ 1048576 := by have := HL3.out; have := HKJ.out; omega
  have hs1z := hk1z.size
  clear hc3 hd hfj
  go_wp2_with (at_builtin; refine wpList_append_rd _ rfl _ _ 40 rfl w1.heap.size 76 i0 (.agg #[.int .i64 0, .int .i64 0]) 2 16 Tryz.underlying40 hinf0 hz0 hz1 hz2 rfl (by decide) (.slice A' k' c') k' _ rfl (own_keptT (X := []) OWZ.out ((Kept.refl _ _).alloc _) (by simp)) (some ⟨wz.heap.size, 0, none⟩) 1 1 [.int .i64 x, .int .i64 d] rfl (new2T _ _ _ _ _ rfl) (fun h => by cases h) (by intro u hu; simp at hu; rcases hu with rfl | rfl <;> rfl) (k' + 1) rfl _ HSN3.out (by unfold maxLen; omega) (by omega) (by simp; omega) ?_; intro A8 c8 w8 hown8 hk8 hat8; have hk9 := Lib.hid ((hkz.alloc (.cells #[.int .i64 x, .int .i64 d] 76)).next hk8 (fun y hy => HOX.out y (by simpa using hy))); have HO8 := Lib.hid hown8; have HAT8 := Lib.hid hat8; clear hown8 hk8 hat8)
  exact ⟨⟨j + 1, A8, k' + 1, c8, by omega, by go_num, rfl, hk9.out, Lib.hid (by have := HKJ.out; omega), Lib.hid (fun y hy => by
    rcases HAT8.out y hy with h1 | h1
    · exact HOX.out y h1
    · right; have := hkz.size; rw [h1]; simp; omega), HO8⟩, by simp [intOf]; omega⟩
end Go.Proofs.YtmbihjlflcjlnaaGreat
/- The contract of ifds.Paths. -/
namespace Go.Proofs.YtmbihjlflcjlnaaGreat
open Go.RowKit Go.Df Go.Df.If
attribute [local go_sem ↓] Go.wp_at_zero Go.wp_at_succ

set_option maxRecDepth 100000 in
set_option maxHeartbeats 4000000 in
theorem paths_err (A1 A2 A3 A4 : Option Addr) (n1 c1 n2 c2 n3 c3 n4 c4 : Nat) (mn F pe : Int) (w : World) (h0 : pe ≠ 0)
    (hchk : ∀ w1, Below w.heap.size w w1 → Calls Tryz.prog 24 #[.agg #[.slice A1 n1 c1, .slice A2 n2 c2, .int .i64 mn, .int .i64 F, .slice A3 n3 c3, .slice A4 n4 c4]] w1 fun e w' => e = .returned (.int .i64 pe) ∧ Below w1.heap.size w1 w') :
    Calls Tryz.prog 8 #[.agg #[.slice A1 n1 c1, .slice A2 n2 c2, .int .i64 mn, .int .i64 F, .slice A3 n3 c3, .slice A4 n4 c4]] w fun e w' => e = .returned (.tuple #[.slice none 0 0, .int .i64 pe]) ∧ Below w.heap.size w w' := by
  have HCHK := Lib.hid hchk
  have h0' : (pe != 0) = true := by simpa using h0
  clear hchk h0
  go_enter Tryz.func8, Tryz.ntmps8
  go_upto_region 1 with fail
  refine wp_named (fun W => ∃ b0, w.heap.size = b0 ∧ Blk W b0 [.slice A1 n1 c1, .slice A2 n2 c2, .int .i64 mn, .int .i64 F, .slice A3 n3 c3, .slice A4 n4 c4] ∧ Below w.heap.size w W) ⟨_, rfl, ?_, ?_⟩ ?_
  · exact Blk.new _ _ _ _ (by first | rfl | simp)
  · go_grown
  rintro W ⟨b0, e0, B0, hB⟩
  rw [e0]
  have G0 : w.heap.size ≤ b0 := by omega
  clear e0
  have ⟨L0, C0, F0⟩ := B0
  go_wp2_with (go_at_call 24; refine (HCHK.out _ hB).mono ?_; rintro e w1 ⟨rfl, hb1⟩)
  go_ret2
  exact ⟨rfl, hB.trans (hb1.mono hB.size)⟩

set_option maxRecDepth 100000 in
set_option maxHeartbeats 4000000 in
theorem paths_ok {p : Pb} (A1 A2 A3 A4 : Option Addr) (n1 c1 n2 c2 n3 c3 n4 c4 : Nat) (mN : Nat) (F : Int) (w : World) (hmn : p.mn = mN) (hF : p.F = F) (hnd : Nds w A1 n1 p.ns) (hed : Eds w A2 n2 p.es) (hfl : Flw w A3 n3 p.fl) (hsd : Sds w A4 n4 p.sd) (ho : Ok p) (hn4 : n4 ≤ 1000000)
    (hchk : ∀ w1, Below w.heap.size w w1 → Calls Tryz.prog 24 #[.agg #[.slice A1 n1 c1, .slice A2 n2 c2, .int .i64 mN, .int .i64 F, .slice A3 n3 c3, .slice A4 n4 c4]] w1 fun e w' => e = .returned (.int .i64 0) ∧ Below w1.heap.size w1 w') :
    Calls Tryz.prog 8 #[.agg #[.slice A1 n1 c1, .slice A2 n2 c2, .int .i64 mN, .int .i64 F, .slice A3 n3 c3, .slice A4 n4 c4]] w fun e w' => ∃ A, e = .returned (.tuple #[.slice A n1 n1, .int .i64 0]) ∧ Flw w' A n1 ((List.range n1).map (pairL p)) ∧ Below w.heap.size w w' := by
  obtain ⟨j0, ji, jz0, jz1, jz2⟩ := info_parts prow_info
  obtain ⟨MR, hMR⟩ : ∃ M, (List.replicate n1 (Value.slice none 0 0)).toArray = M := ⟨_, rfl⟩
  have hN2 : n1 ≤ 8192 := by have := (sup_parts ho.sup).1; have := hnd.1; omega
  have hmkR := fun w => run_make1 (P := Tryz.prog) Tryz.underlying31 ji jz0 jz1 jz2 rfl n1 (by omega) (by omega) MR hMR w
  have HMR := Lib.hid hMR
  have HCHK := Lib.hid hchk
  have HND := Lib.hid hnd
  have HED := Lib.hid hed
  have HFL := Lib.hid hfl
  have HSD := Lib.hid hsd
  have HO := Lib.hid ho
  have HF := Lib.hid hF
  have HMN := Lib.hid hmn
  clear hMR hchk hnd hed hfl hsd ho hF hmn
  go_enter Tryz.func8, Tryz.ntmps8
  go_upto_region 1 with fail
  refine wp_named (fun W => ∃ b0, w.heap.size = b0 ∧ Blk W b0 [.slice A1 n1 c1, .slice A2 n2 c2, .int .i64 mN, .int .i64 F, .slice A3 n3 c3, .slice A4 n4 c4] ∧ Below w.heap.size w W) ⟨_, rfl, ?_, ?_⟩ ?_
  · exact Blk.new _ _ _ _ (by first | rfl | simp)
  · go_grown
  rintro W ⟨b0, e0, B0, hB⟩
  rw [e0]
  have G0 : w.heap.size ≤ b0 := by omega
  clear e0
  have ⟨L0, C0, F0⟩ := B0
  go_upto_region 2 with (go_at_call 24; refine (HCHK.out _ hB).mono ?_; rintro e w1 ⟨rfl, hb1⟩)
  have hkw1 : Kept [] w w1 := ((Kept.refl _ _).call hB).call hb1
  have HB0 := Lib.hid (B0.later hb1)
  have ⟨L01, C01, F01⟩ := HB0.out
  clear C0 F0
  go_upto_region 5 with (go_at_call 25; refine (tabulate_any A1 A2 A3 A4 n1 c1 n2 c2 n3 c3 n4 c4 mN F w1 HMN.out HF.out (HND.out.later hkw1.toBelow) (HED.out.later hkw1.toBelow) (HFL.out.later hkw1.toBelow) (HSD.out.later hkw1.toBelow) HO.out hn4).mono ?_; rintro e w2 ⟨kn, g, O, G, s, rfl, hin, hm, hpe, hwf⟩)
  obtain rfl : n1 = kn.n1 := by have h1 := hin.nd.1; have h2 := HND.out.1; omega
  have HM := Lib.hid hm
  have HPE := Lib.hid hpe
  have hkw2 : Kept [] w1 w2 := (Kept.refl _ _).call hm.low
  have HK02 : Hid (Kept [] w w2) := Lib.hid (keptTrans hkw1 hkw2)
  have HB02 := Lib.hid (hkw2.blk (by simp) HB0.out)
  have ⟨L02, C02, F02⟩ := HB02.out
  clear C01 F01 hm hpe hwf hin
  go_upto_region 6 with fail
  refine wp_named (fun V => ∃ gr, w2.heap.size = gr ∧ V.heap[gr]? = some (.cells MR 40 (0, 0)) ∧ Kept [] w2 V) ⟨_, rfl, by have h9 := World.alloc_heap_new w2 (.cells MR 40 (0, 0)); simpa using h9, (Kept.refl _ _).alloc _⟩ ?_
  rintro V ⟨gr, eg, hgr, hkV⟩
  rw [eg]
  have HPM : Hid (PrM V gr kn.n1 0 (pairL p)) := Lib.hid (PrM.start hgr (fun i hi => by
    have h9 := rep_at (v := Value.slice none 0 0) hi
    rw [HMR.out] at h9
    exact h9))
  have hgw : w.heap.size ≤ gr := by have := HK02.out.size; omega
  have hg2 : gr = w2.heap.size := eg.symm
  have HG2 := Lib.hid hg2
  have HBV := Lib.hid hkV.toBelow
  clear hmkR C02 F02 eg hgr hkV hg2
  go_wp2_with fail
  go_loopw [22] (fun s22 wr => ∃ (i : Nat), i ≤ kn.n1 ∧ s22 = .int .i64 i ∧ Hid (PrM wr gr kn.n1 i (pairL p)) ∧ Hid (Below w2.heap.size w2 wr)) (fun s22 _ => kn.n1 - (intOf s22).toNat)
  case atStart => exact ⟨0, Nat.zero_le _, rfl, HPM, HBV⟩
  case round =>
  clear HPM HBV
  obtain ⟨i, hi, rfl, PM, BW⟩ := hrel
  have KW := Lib.hid (keptTrans HK02.out ((Kept.refl [] w2).call BW.out))
  have MW := Lib.hid (HM.out.call BW.out)
  by_cases hlt : i < kn.n1
  case neg =>
    obtain rfl : i = kn.n1 := by omega
    clear hlt
    go_wp2_with fail
    go_ret2
    exact ⟨_, rfl, PM.out.flw, KW.out.toBelow⟩
  have hi9 : (i : Int) < (kn.n1 : Int) := by omega
  go_wp2_with (go_at_call 26; refine (pairs_any _ i MW.out hlt HO.out HPE.out).mono ?_; rintro e w3 ⟨A3, k3, c3, rfl, hkc3, hp3, -, hb3⟩; have HP3 := Lib.hid (PM.out.kept ((Kept.refl [] wr).call hb3)); have HPR3 := Lib.hid hp3; obtain ⟨Ao, mo, co, cA, -, -⟩ := HP3.out.c i hlt; have fA := HP3.out.fr i; have lA := HP3.out.l; clear hp3)
  exact ⟨⟨i + 1, by omega, by go_num, Lib.hid (HP3.out.set hlt HPR3.out hkc3), Lib.hid ((BW.out.trans (hb3.mono BW.out.size)).setCell (by show w2.heap.size ≤ gr; rw [HG2.out]; exact Nat.le_refl _) _)⟩, by simp [intOf]; omega⟩

theorem paths_any {p : Pb} (A1 A2 A3 A4 : Option Addr) (n1 c1 n2 c2 n3 c3 n4 c4 : Nat) (w : World) (hG : Gr w A1 n1 A2 n2 p.ns p.es) (hF : Flw w A3 n3 p.fl) (hS : Sds w A4 n4 p.sd) (hn4 : n4 ≤ 1000000) (hpe : pbErr p = 0) :
    Calls Tryz.prog 8 #[.agg #[.slice A1 n1 c1, .slice A2 n2 c2, .int .i64 p.mn, .int .i64 p.F, .slice A3 n3 c3, .slice A4 n4 c4]] w fun e w' => ∃ A, e = .returned (.tuple #[.slice A n1 n1, .int .i64 0]) ∧ Flw w' A n1 ((List.range n1).map (pairL p)) ∧ Below w.heap.size w w' := by
  have ho := ok_of hpe
  have hm := main_in (sup_parts ho.sup).2.2.1
  obtain ⟨mN, hmN⟩ : ∃ mN : Nat, p.mn = mN := ⟨p.mn.toNat, by omega⟩
  have := paths_ok A1 A2 A3 A4 n1 c1 n2 c2 n3 c3 n4 c4 mN p.F w hmN rfl hG.nd hG.ed hF hS ho hn4 (fun w1 hb1 => by
    have h1 := ifdsck_any A1 A2 A3 A4 n1 c1 n2 c2 n3 c3 n4 c4 p.mn p.F p.ns p.es p.fl p.sd w1 (hG.nd.later hb1) (hG.ed.later hb1) (hF.later hb1) (hS.later hb1) (by omega) hG.wn hG.we
    have e : pbErr ⟨p.ns, p.es, p.mn, p.F, p.fl, p.sd⟩ = 0 := hpe
    rw [e, hmN] at h1
    exact h1)
  rw [← hmN] at this
  exact this

theorem paths_bad {p : Pb} (A1 A2 A3 A4 : Option Addr) (n1 c1 n2 c2 n3 c3 n4 c4 : Nat) (w : World) (hG : Gr w A1 n1 A2 n2 p.ns p.es) (hF : Flw w A3 n3 p.fl) (hS : Sds w A4 n4 p.sd) (hn4 : n4 ≤ 9223372036854775807) (pe : Int) (hpe : pbErr p = pe) (h0 : pe ≠ 0) :
    Calls Tryz.prog 8 #[.agg #[.slice A1 n1 c1, .slice A2 n2 c2, .int .i64 p.mn, .int .i64 p.F, .slice A3 n3 c3, .slice A4 n4 c4]] w fun e w' => e = .returned (.tuple #[.slice none 0 0, .int .i64 pe]) ∧ Below w.heap.size w w' :=
  paths_err A1 A2 A3 A4 n1 c1 n2 c2 n3 c3 n4 c4 p.mn p.F pe w h0 (fun w1 hb1 => by
    have h1 := ifdsck_any A1 A2 A3 A4 n1 c1 n2 c2 n3 c3 n4 c4 p.mn p.F p.ns p.es p.fl p.sd w1 (hG.nd.later hb1) (hG.ed.later hb1) (hF.later hb1) (hS.later hb1) hn4 hG.wn hG.we
    have e : pbErr ⟨p.ns, p.es, p.mn, p.F, p.fl, p.sd⟩ = pe := hpe
    rw [e] at h1
    exact h1)
end Go.Proofs.YtmbihjlflcjlnaaGreat
