/- A pack of texts: Ji Jj Jk. -/
import Derived.Test.YtmbihjlflcjlnaaGreatZj
/- The contract of the solver's enter. -/
namespace Go.Df.If
theorem enterR_wf {p : Pb} (ho : Ok p) {k a b : Nat} (ha : a < p.F.toNat) {n : Nat} : ∀ r ∈ retL p n, ∀ t, Wf p t → Wf p (enterR p k a b t r) := fun r hr t ht => by
  unfold enterR
  split
  · exact fold_keep (Q := Wf p) _ t (fun f _ u hu => spread_wf ho (retL_mem.1 hr).1 ha hu) ht
  · exact ht
end Go.Df.If
namespace Go.Proofs.YtmbihjlflcjlnaaGreat
open Go.RowKit Go.Df Go.Df.If
attribute [local go_sem ↓] Go.wp_at_zero Go.wp_at_succ
/-- A number of a row, in memory. -/
theorem sin_at {O : Nat → Prop} {w : World} {A : Option Addr} {n c : Nat} {l : List Nat} (h : SInO O w A n c (ofNats l)) {i : Nat} (hi : i < n) : ∃ b6 o6, A = some ⟨b6, o6, none⟩ ∧ b6 < w.heap.size ∧ ∃ h' : i < l.length, w.cell? ⟨b6, o6 + i, none⟩ = some (.int .i64 (l[i] : Nat)) := by
  obtain ⟨b6, o6, e, hl, hc⟩ := h.1.1.2 (by omega)
  have h' : i < l.length := by have := h.1.1.1; rw [ofNats_len] at this; omega
  refine ⟨b6, o6, e, hl, h', ?_⟩
  rw [hc i hi, gi_ofNats h']
theorem elems_list {p : Pb} {s : St} (hw : Wf p s) {n b : Nat} {l : List Nat} (h : ∀ x, hasB l x = s.h n b x) : elemsB l (l.length * 64) = elems p.F.toNat (s.h n b) := elemsB_eq h (fun _ hx => (hw.rng _ _ _ hx).2.2)

set_option maxRecDepth 100000 in
set_option maxHeartbeats 100000000 in
theorem enter_any {p : Pb} {K : Kn} {w0 : World} {b : Nat} {O : Nat → Prop} {G : Gh} {s : St} (w : World) (k a d : Nat) (hI : Inp p K w0) (ho : Ok p) (hw : Wf p s) (hm : Mem p K w0 b O G w s) (hk : k < p.es.length) (hkind : (ge p.es k).k = 2) (ha : a < p.F.toNat) :
    Calls Tryz.prog 107 #[.pointer (some ⟨b, 0, none⟩), .int .i64 k, .int .i64 a, .int .i64 d] w (GetMem p K w0 b O w (enter p k a d s)) := by
  have hF2 : p.F.toNat ≤ 1024 := by have := ho.f2; omega
  have hE2 : p.es.length ≤ 32768 := (sup_parts ho.sup).2.1
  have hN2 : p.ns.length ≤ 8192 := (sup_parts ho.sup).1
  have HN1 := Lib.hid hI.nd.1.symm
  have HM1 := Lib.hid hI.ed.1.symm
  have hkK : k < K.n2 := by rw [HM1.out]; exact hk
  have HM := Lib.hid hm
  have HW := Lib.hid hw
  have HI := Lib.hid hI
  have HO := Lib.hid ho
  have HKD := Lib.hid hkind
  have B0 := hm.box
  unfold sbox at B0
  have ⟨LB, CB, FB⟩ := B0
  obtain ⟨b2, o2, ea, eb, -, e2, -, hl2, hk2, hea, heb, hea2, heb2, r2a, r2b, r2c, r2d, -⟩ := hI.edge ho hm.low hk
  have HEA := Lib.hid hea
  have HEB := Lib.hid heb
  obtain ⟨ek, hek⟩ : ∃ x, (ge p.es k).k = x := ⟨_, rfl⟩
  obtain ⟨ec, hec⟩ : ∃ x, (ge p.es k).c = x := ⟨_, rfl⟩
  rw [hek] at r2c
  rw [hec] at r2d
  clear hm hw hI ho hea heb hek hec hkind
  go_enter Tryz.func107, Tryz.ntmps107
  go_upto_region 1 with fail
  refine wp_named (fun V => ∃ g0, w.heap.size = g0 ∧ Blk V g0 [.int .i64 ea, .int .i64 eb, .int .i64 ek, .int .i64 ec] ∧ Kept [] w V) ⟨_, rfl, Blk.new _ _ _ _ rfl, (Kept.refl _ _).alloc _⟩ ?_
  rintro V0 ⟨g0, eg0, Bg0, hkV0⟩
  rw [eg0]
  have SB : Hid (SafeB O V0 g0) := ⟨Bg0.1, fun h => by have := (HM.out.og g0 h).2; omega⟩
  have HB0 := Lib.hid Bg0
  have M0 := Lib.hid (HM.out.call hkV0.toBelow)
  have F0w : Hid (Fx O O w V0) := .same hkV0
  have B0' := M0.out.box
  unfold sbox at B0'
  have ⟨LB0, CB0, FB0⟩ := B0'
  obtain ⟨b3, o3, Ai, ni, ci, e3, hl3, hk3, r3, hci, hprs, hni, hni2⟩ := HI.out.flow HO.out M0.out.low hk
  have HPR := Lib.hid hprs
  clear CB FB B0 LB r2a r2b r2c r2d hprs eg0 Bg0 hl2 hk2 e2 HM
  go_upto_region 2 with (go_at_call 147; refine (from_any Ai ni ci d (gf p.fl k) w0 _ HPR.out M0.out.low hni hni2 hci (fl_mono HO.out hk)).mono ?_; rintro e w1 ⟨A', m, c', rfl, hp1, hb1⟩)
  have HP1 := Lib.hid hp1
  have hml : m = (froms (gf p.fl k) d).length := hp1.1.symm
  have HML := Lib.hid hml
  have M1 := Lib.hid (M0.out.call hb1)
  have F1 : Hid (Fx O O V0 w1) := Lib.hid (.same ((Kept.refl _ _).call hb1))
  have hm8 : m ≤ 8192 := by
    have h3 : (froms (gf p.fl k) d).length ≤ (gf p.fl k).length := List.length_filter_le _ _
    have h2 := HPR.out.1
    omega
  clear hp1 hml r3 e3 hl3 hk3 CB0 FB0 B0' LB0 HPR M0
  go_loopw [40] (fun s40 wr => ∃ (j : Nat) (O' : Nat → Prop) (G' : Gh), j ≤ m ∧ s40 = .int .i64 j ∧ Hid (Mem p K w0 b O' G' wr (upTo (fun s q => enter1 p k a q.o.toNat s) (froms (gf p.fl k) d) s j)) ∧ Hid (Fx O O' V0 wr)) (fun s40 _ => m - (intOf s40).toNat)
  case atStart => exact ⟨0, O, G, Nat.zero_le _, rfl, by rw [upTo_zero]; exact M1, F1⟩
  case round =>
  clear M1 F1
  obtain ⟨j, O1, G1, hj, rfl, MR, FR⟩ := hrel
  by_cases hlt : j < m
  case neg =>
    obtain rfl : j = m := by omega
    go_wp2_with fail
    go_end0
    exact ⟨O1, G1, rfl, MR.out.eq (by rw [HML.out, upTo_all]; rfl), F0w.out.trans FR.out⟩
  obtain ⟨b5, o5, o, rfl, hl5, hj', r5, r5b, hqo, hoF⟩ := prs_at HO.out MR.out.low HP1.out hk hlt
  have hj1 : (j : Int) < (m : Int) := by omega
  have HQO := Lib.hid hqo
  have HWj : Hid (Wf p (upTo (fun s q => enter1 p k a q.o.toNat s) (froms (gf p.fl k) d) s j)) := Lib.hid (upTo_keep (Q := Wf p) j (fun q hq t ht => by
    have h1 := HO.out.pair (by rw [HO.out.len]; exact hk) (mem_froms.1 hq).1
    exact enter1_wf HO.out hk HKD.out ha (by omega) ht) HW.out)
  have HSU0 : Hid (upTo (fun s q => enter1 p k a q.o.toNat s) (froms (gf p.fl k) d) s (j + 1) = enter1 p k a o (upTo (fun s q => enter1 p k a q.o.toNat s) (froms (gf p.fl k) d) s j)) := by
    show _ = _
    rw [upTo_succ _ _ _ hj', HQO.out, Int.toNat_natCast]
  obtain ⟨t0, ht0⟩ : ∃ t0, t0 = upTo (fun s q => enter1 p k a q.o.toNat s) (froms (gf p.fl k) d) s j := ⟨_, rfl⟩
  rw [← ht0] at MR HWj HSU0
  clear hqo ht0
  go_upto_region 4 with fail
  refine wp_named (fun V => ∃ g, wr.heap.size = g ∧ Blk V g [.int .i64 d, .int .i64 o] ∧ Kept [] wr V) ⟨_, rfl, Blk.new _ _ _ _ rfl, (Kept.refl _ _).alloc _⟩ ?_
  rintro V1 ⟨g, eg, Bg, hkV1⟩
  rw [eg]
  have ⟨Lg, Cg, Fg⟩ := Bg
  have MV1 := Lib.hid (MR.out.call hkV1.toBelow)
  have FV1 := Lib.hid (FR.out.trans (.same hkV1))
  have ⟨Le1, Ce1, Fe1⟩ := SB.out.blk FV1.out HB0.out
  clear r5 r5b eg MR FR
  go_upto_region 6 with (go_at_call 57; refine (add_any _ eb o o HI.out HO.out HWj.out MV1.out heb2 hoF hoF).mono ?_; intro e w2 hG2; obtain ⟨O2, G2, rfl, M2', F2'⟩ := hG2)
  have M2 := Lib.hid M2'
  have F2 := Lib.hid (FV1.out.trans F2')
  have HW2 := Lib.hid (HWj.out.add heb2 hoF hoF)
  obtain ⟨t1, ht1⟩ : ∃ t1, t1 = t0.add eb o o := ⟨_, rfl⟩
  rw [← ht1] at M2 HW2
  have HT1 := Lib.hid ht1
  have B2 := M2.out.box
  unfold sbox at B2
  have ⟨LB2, CB2, FB2⟩ := B2
  obtain ⟨A, kk, c, l, hv, hbt, hkk, hA, hsf, hhas⟩ := M2.out.ebits k o hkK
  have hget := get_any K.er K.n2 K.n2 k o G2.em G2.ec G2.ev _ M2.out.ent hkK (by omega)
  rw [hv] at hget
  have HG := Lib.hid hget
  have HBT := Lib.hid hbt
  have HH := Lib.hid hhas
  have HA := Lib.hid hA
  have hhd := hhas a
  clear hget hbt hsf hhas hA hv Ce1 Fe1 Cg Fg ht1 M2' F2'
  cases hh : t1.e k o a with
  | true =>
    rw [hh] at hhd
    have HSU : Hid (upTo (fun s q => enter1 p k a q.o.toNat s) (froms (gf p.fl k) d) s (j + 1) = t1) := by
      show _ = _
      rw [HSU0.out]
      unfold enter1
      rw [HEB.out, Int.toNat_natCast, ← HT1.out, if_pos hh]
    clear hh
    go_wp2_with (first | (go_at_call 62; refine HG.out.mono ?_; rintro e w3 ⟨rfl, hb3⟩) | (go_at_call 68; refine (bhas_any A kk c a l _ (HBT.out.later hb3) (by omega)).mono ?_; rintro e w4 ⟨rfl, rfl⟩))
    exact ⟨⟨j + 1, O2, G2, by omega, by go_num, Lib.hid ((M2.out.call hb3).eq HSU.out.symm), Lib.hid (F2.out.call hb3)⟩, by simp [intOf]; omega⟩
  | false =>
  rw [hh] at hhd
  have HH0 := Lib.hid hh
  have hcn : G2.ec k < maxLen := by
    have h1 := M2.out.ecb k hkK
    have h3 := trip_le (N := p.es.length) (F := p.F.toNat) (by omega) (by omega)
    unfold maxLen
    omega
  clear hh
  go_upto_region 10 with (first | (go_at_call 62; refine HG.out.mono ?_; rintro e w3 ⟨rfl, hb3⟩) | (go_at_call 68; refine (bhas_any A kk c a l _ (HBT.out.later hb3) (by omega)).mono ?_; rintro e w4 ⟨rfl, rfl⟩) | (go_at_call 102; refine (with_any A kk c a l _ (HBT.out.later hb3) hkk (by omega) HA.out).mono ?_; rintro e w4 ⟨A2, k2, l2, rfl, hbt2, hhas2, hk2, hfr2, hA2, hb4⟩))
  have M4 := Lib.hid ((M2.out.call hb3).call hb4)
  have F4 := Lib.hid ((F2.out.call hb3).call hb4)
  have HBV : Hid (BtV O2 w4 (.slice A2 k2 k2) (fun y => t1.e k o y || y == a)) := Lib.hid ⟨A2, k2, k2, l2, rfl, hbt2, hk2, hA2, fun _ x hx => ⟨(hfr2 x hx).2, fun hox => by have h1 := (M2.out.call hb3).og _ hox; have h2 := (hfr2 x hx).1; omega⟩, fun x => by rw [hhas2, HH.out]⟩
  have B4 := M4.out.box
  unfold sbox at B4
  have ⟨L4, C4, F4b⟩ := B4
  clear CB2 FB2 hbt2 hhas2 hfr2 hA2 HG HBT HA M2 F2
  go_upto_region 11 with (go_at_call 103; refine (put_any K.er K.n2 K.n2 k o G2.em G2.ec G2.ev A2 k2 k2 _ M4.out.ent hkK (by omega) hcn).mono ?_; intro e w5 hput; obtain ⟨O5, G5, rfl, M5', F5'⟩ := M4.out.put_ent HM1.out hkK hoF ha HH0.out HBV.out hput; clear hput)
  have M5 := Lib.hid M5'
  have F5 := Lib.hid (F4.out.trans F5')
  have HW5 := Lib.hid (HW2.out.ent (b := o) ha hk HKD.out)
  have B5 := M5.out.box
  unfold sbox at B5
  have ⟨L5, C5, F5b⟩ := B5
  have ⟨Le5, Ce5, Fe5⟩ := SB.out.blk F5.out HB0.out
  have hea1 : ea < K.n1 := by rw [HN1.out]; exact hea2
  have hea1' : (ea : Int) < (K.n1 : Int) := by omega
  obtain ⟨A6, n6, c6, r6, hs6⟩ := M5.out.rets.2 ea hea1
  have hrr5 : K.rr < w5.heap.size := M5.out.rets.1.1
  have HS6 := Lib.hid hs6
  have hn6 : n6 = (retL p ea).length := by have := hs6.1.1.1; rw [ofNats_len] at this; exact this.symm
  have hn6b : n6 ≤ 32768 := by
    have h1 : (retL p ea).length ≤ (List.range p.es.length).length := List.length_filter_le _ _
    rw [List.length_range] at h1
    omega
  have HN6 := Lib.hid hn6
  obtain ⟨t2, ht2⟩ : ∃ t2, t2 = t1.ent k o a := ⟨_, rfl⟩
  rw [← ht2] at M5 HW5
  have HSU : Hid (upTo (fun s q => enter1 p k a q.o.toNat s) (froms (gf p.fl k) d) s (j + 1) = (retL p ea).foldl (enterR p k a o) t2) := by
    show _ = _
    rw [HSU0.out]
    unfold enter1
    rw [HEB.out, Int.toNat_natCast, ← HT1.out, if_neg (by rw [HH0.out]; simp), HEA.out, Int.toNat_natCast, ht2]
  clear C4 F4b M5' F5' hs6 hn6 ht2 HBV M4 F4
  go_upto_region 12 with fail
  go_quiet (fail)
  refine then_named (fun X => Kept [] w5 X) (by first | exact (Kept.refl _ _).drewN _ | exact Kept.refl _ _) ?_
  rintro V5 hkV5
  have MV5 := Lib.hid (M5.out.call hkV5.toBelow)
  have FV5 := Lib.hid (F5.out.trans (.same hkV5))
  have HS6V := Lib.hid (HS6.out.fx (.same hkV5))
  clear C5 F5b Ce5 Fe5 r6 HS6 M5 F5
  go_wp2_with fail
  go_loopw [87] (fun s87 wq => ∃ (i : Nat) (O' : Nat → Prop) (G' : Gh), i ≤ n6 ∧ s87 = .int .i64 i ∧ Hid (Mem p K w0 b O' G' wq (upTo (enterR p k a o) (retL p ea) t2 i)) ∧ Hid (Fx O O' V0 wq) ∧ Hid (Fx O5 O' V5 wq)) (fun s87 _ => n6 - (intOf s87).toNat)
  case atStart => exact ⟨0, O5, G5, Nat.zero_le _, rfl, by rw [upTo_zero]; exact MV5, FV5, Lib.hid (Fx.refl _ _)⟩
  case round =>
  rename World => wq
  clear MV5 FV5
  obtain ⟨i, O6, G6, hi6, rfl, MQ, FQ, FQ5⟩ := hrel
  by_cases hlt6 : i < n6
  case neg =>
    obtain rfl : i = n6 := by omega
    go_wp2_with fail
    exact ⟨⟨j + 1, O6, G6, by omega, by go_num, Lib.hid (MQ.out.eq (by rw [HSU.out, HN6.out, upTo_all])), FQ⟩, by simp [intOf]; omega⟩
  have BQ := MQ.out.box
  unfold sbox at BQ
  have ⟨LQ, CQ, FQb⟩ := BQ
  have ⟨Leq, Ceq, Feq⟩ := SB.out.blk FQ.out HB0.out
  obtain ⟨b6, o6, rfl, hl6, hi6', r6⟩ := sin_at (HS6V.out.fx FQ5.out) hlt6
  obtain ⟨r, hr⟩ : ∃ r, (retL p ea)[i] = r := ⟨_, rfl⟩
  have hrm : r ∈ retL p ea := by rw [← hr]; exact List.getElem_mem hi6'
  have hrk := (retL_mem.1 hrm).1
  rw [hr] at r6
  have hi1 : (i : Int) < (n6 : Int) := by omega
  obtain ⟨b2, o2, ra, rb, -, e2, -, hl2, hr2, hra, hrb, hra2, hrb2, q2a, -, -, -, -⟩ := HI.out.edge HO.out MQ.out.low hrk
  have HRA := Lib.hid hra
  have hra1 : ra < K.n1 := by rw [HN1.out]; exact hra2
  have hra1' : (ra : Int) < (K.n1 : Int) := by omega
  have q3 := MQ.out.start.2 ra hra1
  have hsb := MQ.out.start.1.1
  obtain ⟨st, hst⟩ : ∃ st, stOf p.ns ra = st := ⟨_, rfl⟩
  rw [hst] at q3
  have HST := Lib.hid hst
  have HWi := Lib.hid (upTo_keep (Q := Wf p) (s := t2) (l := retL p ea) (f := enterR p k a o) i (enterR_wf HO.out ha) HW5.out)
  have HSI : Hid (upTo (enterR p k a o) (retL p ea) t2 (i + 1) = enterR p k a o (upTo (enterR p k a o) (retL p ea) t2 i) r) := by
    show _ = _
    rw [upTo_succ _ _ _ hi6', hr]
  have HRM := Lib.hid hrm
  obtain ⟨t3, ht3⟩ : ∃ t3, t3 = upTo (enterR p k a o) (retL p ea) t2 i := ⟨_, rfl⟩
  rw [← ht3] at MQ HWi HSI
  clear hr hra hrb hst ht3 hrm
  by_cases hse : st = eb
  case neg =>
    have hse1 : ((st : Int) != (eb : Int)) = true := by simp; omega
    have hse2 : (st != eb) = true := by simpa using hse
    have HSI2 : Hid (upTo (enterR p k a o) (retL p ea) t2 (i + 1) = t3) := by
      show _ = _
      rw [HSI.out]
      unfold enterR
      rw [HRA.out, HEB.out, Int.toNat_natCast, Int.toNat_natCast, HST.out, if_neg hse]
    clear hse
    go_upto_region 15 with fail
    go_quiet (fail)
    go_wp2_with fail
    exact ⟨⟨i + 1, O6, G6, by omega, by go_num, Lib.hid ((MQ.out.call (drewN_below _ _ _)).eq HSI2.out.symm), Lib.hid (FQ.out.trans (.same ((Kept.refl _ _).drewN _))), Lib.hid (FQ5.out.trans (.same ((Kept.refl _ _).drewN _)))⟩, by simp [intOf]; omega⟩
  subst hse
  go_upto_region 15 with fail
  go_quiet (fail)
  go_upto_region 16 with fail
  refine wp_named (fun X => Kept [] wq X) (by first | exact (Kept.refl _ _).drewN _ | exact Kept.refl _ _) ?_
  rintro V6 hkV6
  have MV6 := Lib.hid (MQ.out.call hkV6.toBelow)
  have FV6 := Lib.hid (FQ.out.trans (.same hkV6))
  have FV65 := Lib.hid (FQ5.out.trans (.same hkV6))
  have B6 := MV6.out.box
  unfold sbox at B6
  have ⟨L6, C6, F6b⟩ := B6
  obtain ⟨A7, k7, c7, l7, hv7, hbt7, hk7, hA7, hsf7, hhas7⟩ := MV6.out.hbits ra o hra1
  have hget7 := get_any K.hr K.n1 K.n1 ra o G6.hm G6.hc G6.hv _ MV6.out.held hra1 (by omega)
  rw [hv7] at hget7
  have HG7 := Lib.hid hget7
  have HBT7 := Lib.hid hbt7
  have hel := elems_list HWi.out hhas7
  rw [hbt7.1] at hel
  have HEL := Lib.hid hel
  clear hget7 hbt7 hsf7 hhas7 hA7 hv7 hel CQ FQb Ceq Feq r6 hl6 q2a q3 e2 MQ FQ FQ5
  go_upto_region 17 with (first | (go_at_call 62; refine HG7.out.mono ?_; rintro e w7 ⟨rfl, hb7⟩) | (go_at_call 61; refine (blist_any A7 k7 c7 l7 _ (HBT7.out.later hb7) hk7).mono ?_; rw [HEL.out]; rintro e w8 ⟨A8, n8, c8, rfl, hs8, hf8, hb8⟩))
  have M8 := Lib.hid ((MV6.out.call hb7).call hb8)
  have F8 := Lib.hid ((FV6.out.call hb7).call hb8)
  have F85 := Lib.hid ((FV65.out.call hb7).call hb8)
  have HS8 : Hid (SInO O6 w8 A8 n8 c8 (ofNats (elems p.F.toNat (t3.h ra o)))) := Lib.hid (SInO.new hs8 hf8 (fun x hx => ((MV6.out.call hb7).og x hx).2))
  have hn8 : n8 = (elems p.F.toNat (t3.h ra o)).length := by have := hs8.1.1; rw [ofNats_len] at this; exact this.symm
  have hn8b : n8 ≤ 1024 := by
    have h1 : (elems p.F.toNat (t3.h ra o)).length ≤ (List.range p.F.toNat).length := List.length_filter_le _ _
    rw [List.length_range] at h1
    omega
  have HN8 := Lib.hid hn8
  clear hs8 hf8 hn8 C6 F6b MV6 FV6 FV65 HG7 HBT7
  go_wp2_with fail
  go_loopw [120] (fun s120 wz => ∃ (x : Nat) (O' : Nat → Prop) (G' : Gh), x ≤ n8 ∧ s120 = .int .i64 x ∧ Hid (Mem p K w0 b O' G' wz (upTo (fun s f => spread p r a f s) (elems p.F.toNat (t3.h ra o)) t3 x)) ∧ Hid (Fx O O' V0 wz) ∧ Hid (Fx O5 O' V5 wz) ∧ Hid (Fx O6 O' w8 wz)) (fun s120 _ => n8 - (intOf s120).toNat)
  case atStart => exact ⟨0, O6, G6, Nat.zero_le _, rfl, by rw [upTo_zero]; exact M8, F8, F85, Lib.hid (Fx.refl _ _)⟩
  case round =>
  rename World => wz
  clear M8 F8 F85
  obtain ⟨x, O9, G9, hx8, rfl, MZ, FZ, FZ5, FZ8⟩ := hrel
  by_cases hlt8 : x < n8
  case neg =>
    obtain rfl : x = n8 := by omega
    go_wp2_with fail
    refine ⟨⟨i + 1, O9, G9, by omega, by go_num, Lib.hid (MZ.out.eq ?_), FZ, FZ5⟩, by simp [intOf]; omega⟩
    rw [HSI.out]
    unfold enterR
    rw [HRA.out, HEB.out, Int.toNat_natCast, Int.toNat_natCast, HST.out, if_pos rfl, HN8.out, upTo_all]
  obtain ⟨b9, o9, rfl, hl9, hx9, r9⟩ := sin_at (HS8.out.fx FZ8.out) hlt8
  obtain ⟨f, hf⟩ : ∃ f, (elems p.F.toNat (t3.h ra o))[x] = f := ⟨_, rfl⟩
  rw [hf] at r9
  have hx1 : (x : Int) < (n8 : Int) := by omega
  have HWx := Lib.hid (upTo_keep (Q := Wf p) (s := t3) (l := elems p.F.toNat (t3.h ra o)) (f := fun s f => spread p r a f s) x (fun f _ u hu => spread_wf HO.out hrk ha hu) HWi.out)
  have HSX : Hid (upTo (fun s f => spread p r a f s) (elems p.F.toNat (t3.h ra o)) t3 (x + 1) = spread p r a f (upTo (fun s f => spread p r a f s) (elems p.F.toNat (t3.h ra o)) t3 x)) := by
    show _ = _
    rw [upTo_succ _ _ _ hx9, hf]
  clear hf
  go_wp2_with (go_at_call 106; refine (spread_any _ r a f HI.out HO.out HWx.out MZ.out hrk ha).mono ?_; intro e wy hGy; obtain ⟨Oy, Gy, rfl, My, Fy⟩ := hGy)
  exact ⟨⟨x + 1, Oy, Gy, by omega, by go_num, Lib.hid (My.eq HSX.out.symm), Lib.hid (FZ.out.trans Fy), Lib.hid (FZ5.out.trans Fy), Lib.hid (FZ8.out.trans Fy)⟩, by simp [intOf]; omega⟩
end Go.Proofs.YtmbihjlflcjlnaaGreat
/- The contract of the solver's leave. -/
namespace Go.Df.If
theorem leaveR_wf {p : Pb} (ho : Ok p) {n d : Nat} {cs : List Nat} (hc : ∀ a ∈ cs, a < p.F.toNat) {m : Nat} : ∀ r ∈ retL p m, ∀ t, Wf p t → Wf p (leaveR p n d cs t r) := fun r hr t ht => by
  unfold leaveR
  split
  · exact fold_keep (Q := Wf p) _ t (fun a ha u hu => spread_wf ho (retL_mem.1 hr).1 (hc a ha) hu) ht
  · exact ht
theorem leave1_wf {p : Pb} (ho : Ok p) {n b d : Nat} (k : Nat) : ∀ t, Wf p t → Wf p (leave1 p n b d t k) := fun t ht =>
  fold_keep (Q := Wf p) _ t (leaveR_wf ho (fun _ ha => (elems_mem.1 ha).1)) ht
end Go.Df.If
namespace Go.Proofs.YtmbihjlflcjlnaaGreat
open Go.RowKit Go.Df Go.Df.If
attribute [local go_sem ↓] Go.wp_at_zero Go.wp_at_succ
theorem ent_list {p : Pb} {s : St} (hw : Wf p s) {k b : Nat} {l : List Nat} (h : ∀ x, hasB l x = s.e k b x) : elemsB l (l.length * 64) = elems p.F.toNat (s.e k b) := elemsB_eq h (fun _ hx => (hw.ee _ _ _ hx).1)

set_option maxRecDepth 100000 in
set_option maxHeartbeats 100000000 in
theorem leave_any {p : Pb} {K : Kn} {w0 : World} {b : Nat} {O : Nat → Prop} {G : Gh} {s : St} (w : World) (n c0 d : Nat) (hI : Inp p K w0) (ho : Ok p) (hw : Wf p s) (hm : Mem p K w0 b O G w s) (hn : n < p.ns.length) (hc : c0 ≤ 1000000) :
    Calls Tryz.prog 108 #[.pointer (some ⟨b, 0, none⟩), .int .i64 n, .int .i64 c0, .int .i64 d] w (GetMem p K w0 b O w (leave p n c0 d s)) := by
  have hF2 : p.F.toNat ≤ 1024 := by have := ho.f2; omega
  have hE2 : p.es.length ≤ 32768 := (sup_parts ho.sup).2.1
  have hN2 : p.ns.length ≤ 8192 := (sup_parts ho.sup).1
  have HN1 := Lib.hid hI.nd.1.symm
  have HM1 := Lib.hid hI.ed.1.symm
  have hn1 : n < K.n1 := by rw [HN1.out]; exact hn
  have hn1' : (n : Int) < (K.n1 : Int) := by omega
  have HM := Lib.hid hm
  have HW := Lib.hid hw
  have HI := Lib.hid hI
  have HO := Lib.hid ho
  have B0 := hm.box
  unfold sbox at B0
  have ⟨LB, CB, FB⟩ := B0
  have q3 := hm.start.2 n hn1
  have hsb := hm.start.1.1
  have hst2 : stOf p.ns n < K.n1 := by have := stOf_le p.ns n; omega
  obtain ⟨A6, n6, c6, r6, hs6⟩ := hm.calls.2 (stOf p.ns n) hst2
  have hrc := hm.calls.1.1
  have HS6 : Hid (SInO O w A6 n6 c6 (ofNats (callL p (stOf p.ns n)))) := Lib.hid hs6
  have hn6 : n6 = (callL p (stOf p.ns n)).length := by have := hs6.1.1.1; rw [ofNats_len] at this; exact this.symm
  have hn6b : n6 ≤ 32768 := by
    have h1 : (callL p (stOf p.ns n)).length ≤ (List.range p.es.length).length := List.length_filter_le _ _
    rw [List.length_range] at h1
    omega
  have HN6 := Lib.hid hn6
  obtain ⟨L, hL⟩ : ∃ L, L = callL p (stOf p.ns n) := ⟨_, rfl⟩
  obtain ⟨st, hst⟩ : ∃ st, stOf p.ns n = st := ⟨_, rfl⟩
  rw [hst] at q3 r6 hst2
  have hst2' : (st : Int) < (K.n1 : Int) := by omega
  rw [← hL] at HS6 HN6
  have HL := Lib.hid hL
  clear hm hw hI ho hs6 hn6 hst hL
  go_enter Tryz.func108, Tryz.ntmps108
  go_upto_region 0 with fail
  go_quiet (fail)
  refine then_named (fun X => Kept [] w X) (by first | exact (Kept.refl _ _).drewN _ | exact Kept.refl _ _) ?_
  rintro V0 hkV0
  have M0 := Lib.hid (HM.out.call hkV0.toBelow)
  have F0 : Hid (Fx O O w V0) := .same hkV0
  have HS60 := Lib.hid (HS6.out.fx F0.out)
  clear CB FB B0 LB q3 hsb r6 hrc HM HS6
  go_wp2_with fail
  go_loopw [29] (fun s29 wr => ∃ (j : Nat) (O' : Nat → Prop) (G' : Gh), j ≤ n6 ∧ s29 = .int .i64 j ∧ Hid (Mem p K w0 b O' G' wr (upTo (leave1 p n c0 d) L s j)) ∧ Hid (Fx O O' w wr) ∧ Hid (Fx O O' V0 wr)) (fun s29 _ => n6 - (intOf s29).toNat)
  case atStart => exact ⟨0, O, G, Nat.zero_le _, rfl, by rw [upTo_zero]; exact M0, F0, Lib.hid (Fx.refl _ _)⟩
  case round =>
  clear M0 F0
  obtain ⟨j, O1, G1, hj, rfl, MR, FR, FR0⟩ := hrel
  by_cases hlt : j < n6
  case neg =>
    obtain rfl : j = n6 := by omega
    go_wp2_with fail
    go_end0
    exact ⟨O1, G1, rfl, MR.out.eq (by rw [HN6.out, upTo_all, HL.out]; rfl), FR.out⟩
  have BR := MR.out.box
  unfold sbox at BR
  have ⟨LR, CR, FRb⟩ := BR
  obtain ⟨b6, o6, rfl, hl6, hj6, r6⟩ := sin_at (HS60.out.fx FR0.out) hlt
  obtain ⟨k, hk⟩ : ∃ k, L[j] = k := ⟨_, rfl⟩
  rw [hk] at r6
  have hkL : k ∈ L := by rw [← hk]; exact List.getElem_mem hj6
  have hke : k < p.es.length := by rw [HL.out] at hkL; exact (callL_mem.1 hkL).1
  have hkK : k < K.n2 := by rw [HM1.out]; exact hke
  have hj1 : (j : Int) < (n6 : Int) := by omega
  have HWj := Lib.hid (upTo_keep (Q := Wf p) (s := s) (l := L) (f := leave1 p n c0 d) j (fun k _ => leave1_wf HO.out k) HW.out)
  have HSJ : Hid (upTo (leave1 p n c0 d) L s (j + 1) = leave1 p n c0 d (upTo (leave1 p n c0 d) L s j) k) := by
    show _ = _
    rw [upTo_succ _ _ _ hj6, hk]
  obtain ⟨t0, ht0⟩ : ∃ t0, t0 = upTo (leave1 p n c0 d) L s j := ⟨_, rfl⟩
  rw [← ht0] at MR HWj HSJ
  obtain ⟨A, kk, c, l, hv, hbt, hkk, hA, hsf, hhas⟩ := MR.out.ebits k c0 hkK
  have hget := get_any K.er K.n2 K.n2 k c0 G1.em G1.ec G1.ev wr MR.out.ent hkK hc
  rw [hv] at hget
  have HG := Lib.hid hget
  have HBT := Lib.hid hbt
  have hel := ent_list HWj.out hhas
  rw [hbt.1] at hel
  have HEL := Lib.hid hel
  obtain ⟨b2, o2, ea, eb, -, e2, -, hl2, hk2, hea, heb, hea2, heb2, r2a, -, -, -, -⟩ := HI.out.edge HO.out MR.out.low hke
  have HEA := Lib.hid hea
  clear hget hbt hA hsf hhas hv hel hk ht0 hkL hea heb e2 hl2 hk2 r2a
  go_upto_region 4 with (first | (go_at_call 62; refine HG.out.mono ?_; rintro e w3 ⟨rfl, hb3⟩) | (go_at_call 61; refine (blist_any A kk c l _ (HBT.out.later hb3) hkk).mono ?_; rw [HEL.out]; rintro e w4 ⟨A8, n8, c8, rfl, hs8, hf8, hb8⟩))
  have M4 := Lib.hid ((MR.out.call hb3).call hb8)
  have F4 := Lib.hid ((FR.out.call hb3).call hb8)
  have F40 := Lib.hid ((FR0.out.call hb3).call hb8)
  have HS8 : Hid (SInO O1 w4 A8 n8 c8 (ofNats (elems p.F.toNat (t0.e k c0)))) := Lib.hid (SInO.new hs8 hf8 (fun x hx => ((MR.out.call hb3).og x hx).2))
  have hn8 : n8 = (elems p.F.toNat (t0.e k c0)).length := by have := hs8.1.1; rw [ofNats_len] at this; exact this.symm
  have hn8b : n8 ≤ 1024 := by
    have h1 : (elems p.F.toNat (t0.e k c0)).length ≤ (List.range p.F.toNat).length := List.length_filter_le _ _
    rw [List.length_range] at h1
    omega
  have HN8 := Lib.hid hn8
  have B4 := M4.out.box
  unfold sbox at B4
  have ⟨L4, C4, F4b⟩ := B4
  obtain ⟨b2, o2, ea', eb', -, e2, -, hl2, hk2, hea', heb', -, -, r2a, -, -, -, -⟩ := HI.out.edge HO.out M4.out.low hke
  obtain rfl : ea' = ea := by have := HEA.out; omega
  have hea1 : ea' < K.n1 := by rw [HN1.out]; exact hea2
  have hea1' : (ea' : Int) < (K.n1 : Int) := by omega
  obtain ⟨A7, n7, c7, r7, hs7⟩ := M4.out.rets.2 ea' hea1
  have hrr4 := M4.out.rets.1.1
  have HS7 := Lib.hid hs7
  have hn7 : n7 = (retL p ea').length := by have := hs7.1.1.1; rw [ofNats_len] at this; exact this.symm
  have hn7b : n7 ≤ 32768 := by
    have h1 : (retL p ea').length ≤ (List.range p.es.length).length := List.length_filter_le _ _
    rw [List.length_range] at h1
    omega
  have HN7 := Lib.hid hn7
  clear hs8 hf8 hn8 hea' heb' hs7 hn7 CR FRb r6 MR FR FR0 HG HBT
  go_quiet (fail)
  refine then_named (fun X => Kept [] w4 X) (by first | exact (Kept.refl _ _).drewN _ | exact Kept.refl _ _) ?_
  rintro V5 hkV5
  have MV5 := Lib.hid (M4.out.call hkV5.toBelow)
  have FV5 := Lib.hid (F4.out.trans (.same hkV5))
  have FV50 := Lib.hid (F40.out.trans (.same hkV5))
  have HS7V := Lib.hid (HS7.out.fx (.same hkV5))
  have HS8V := Lib.hid (HS8.out.fx (.same hkV5))
  clear C4 F4b r7 e2 r2a HS7 HS8 M4 F4 F40
  obtain ⟨cs, hcs⟩ : ∃ cs, cs = elems p.F.toNat (t0.e k c0) := ⟨_, rfl⟩
  rw [← hcs] at HS8V HN8
  have HCF : Hid (∀ a ∈ cs, a < p.F.toNat) := fun a ha => by rw [hcs] at ha; exact (elems_mem.1 ha).1
  have HCS := Lib.hid hcs
  clear hcs
  go_wp2_with fail
  go_loopw [58] (fun s58 wq => ∃ (i : Nat) (O' : Nat → Prop) (G' : Gh), i ≤ n7 ∧ s58 = .int .i64 i ∧ Hid (Mem p K w0 b O' G' wq (upTo (leaveR p n d cs) (retL p ea') t0 i)) ∧ Hid (Fx O O' w wq) ∧ Hid (Fx O O' V0 wq) ∧ Hid (Fx O1 O' V5 wq)) (fun s58 _ => n7 - (intOf s58).toNat)
  case atStart => exact ⟨0, O1, G1, Nat.zero_le _, rfl, by rw [upTo_zero]; exact MV5, FV5, FV50, Lib.hid (Fx.refl _ _)⟩
  case round =>
  rename World => wq
  clear MV5 FV5 FV50
  obtain ⟨i, O6, G6, hi7, rfl, MQ, FQ, FQ0, FQ5⟩ := hrel
  by_cases hlt7 : i < n7
  case neg =>
    obtain rfl : i = n7 := by omega
    go_wp2_with fail
    refine ⟨⟨j + 1, O6, G6, by omega, by go_num, Lib.hid (MQ.out.eq ?_), FQ, FQ0⟩, by simp [intOf]; omega⟩
    rw [HSJ.out]
    unfold leave1
    rw [HEA.out, Int.toNat_natCast, HN7.out, upTo_all, HCS.out]
  have BQ := MQ.out.box
  unfold sbox at BQ
  have ⟨LQ, CQ, FQb⟩ := BQ
  obtain ⟨b7, o7, rfl, hl7, hi7', r7⟩ := sin_at (HS7V.out.fx FQ5.out) hlt7
  obtain ⟨r, hr⟩ : ∃ r, (retL p ea')[i] = r := ⟨_, rfl⟩
  have hrm : r ∈ retL p ea' := by rw [← hr]; exact List.getElem_mem hi7'
  have hrk := (retL_mem.1 hrm).1
  rw [hr] at r7
  have hi1 : (i : Int) < (n7 : Int) := by omega
  obtain ⟨b2, o2, ra, rb, -, e2, -, hl2, hr2, hra, hrb, hra2, hrb2, q2a, -, -, -, -⟩ := HI.out.edge HO.out MQ.out.low hrk
  have HRA := Lib.hid hra
  have HWi := Lib.hid (upTo_keep (Q := Wf p) (s := t0) (l := retL p ea') (f := leaveR p n d cs) i (leaveR_wf HO.out HCF.out) HWj.out)
  have HSI : Hid (upTo (leaveR p n d cs) (retL p ea') t0 (i + 1) = leaveR p n d cs (upTo (leaveR p n d cs) (retL p ea') t0 i) r) := by
    show _ = _
    rw [upTo_succ _ _ _ hi7', hr]
  obtain ⟨t3, ht3⟩ : ∃ t3, t3 = upTo (leaveR p n d cs) (retL p ea') t0 i := ⟨_, rfl⟩
  rw [← ht3] at MQ HWi HSI
  clear hr hra hrb ht3 hrm
  by_cases hse : ra = n
  case neg =>
    have hse1 : ((ra : Int) != (n : Int)) = true := by simp; omega
    have hse2 : (ra != n) = true := by simpa using hse
    have HSI2 : Hid (upTo (leaveR p n d cs) (retL p ea') t0 (i + 1) = t3) := by
      show _ = _
      rw [HSI.out]
      unfold leaveR
      rw [HRA.out, Int.toNat_natCast, if_neg hse]
    clear hse
    go_wp2_with fail
    exact ⟨⟨i + 1, O6, G6, by omega, by go_num, Lib.hid (MQ.out.eq HSI2.out.symm), FQ, FQ0, FQ5⟩, by simp [intOf]; omega⟩
  subst hse
  have HS8Q := Lib.hid (HS8V.out.fx FQ5.out)
  go_wp2_with fail
  go_loopw [76] (fun s76 wz => ∃ (x : Nat) (O' : Nat → Prop) (G' : Gh), x ≤ n8 ∧ s76 = .int .i64 x ∧ Hid (Mem p K w0 b O' G' wz (upTo (fun s a => spread p r a d s) cs t3 x)) ∧ Hid (Fx O O' w wz) ∧ Hid (Fx O O' V0 wz) ∧ Hid (Fx O1 O' V5 wz) ∧ Hid (Fx O6 O' wq wz)) (fun s76 _ => n8 - (intOf s76).toNat)
  case atStart => exact ⟨0, O6, G6, Nat.zero_le _, rfl, by rw [upTo_zero]; exact MQ, FQ, FQ0, FQ5, Lib.hid (Fx.refl _ _)⟩
  case round =>
  rename World => wz
  clear MQ FQ FQ0 FQ5 CQ FQb r7 q2a e2
  obtain ⟨x, O9, G9, hx8, rfl, MZ, FZ, FZ0, FZ5, FZ6⟩ := hrel
  by_cases hlt8 : x < n8
  case neg =>
    obtain rfl : x = n8 := by omega
    go_wp2_with fail
    refine ⟨⟨i + 1, O9, G9, by omega, by go_num, Lib.hid (MZ.out.eq ?_), FZ, FZ0, FZ5⟩, by simp [intOf]; omega⟩
    rw [HSI.out]
    unfold leaveR
    rw [HRA.out, Int.toNat_natCast, if_pos rfl, HN8.out, upTo_all]
  obtain ⟨b9, o9, rfl, hl9, hx9, r9⟩ := sin_at (HS8Q.out.fx FZ6.out) hlt8
  obtain ⟨a, ha⟩ : ∃ a, cs[x] = a := ⟨_, rfl⟩
  have haF : a < p.F.toNat := by rw [← ha]; exact HCF.out _ (List.getElem_mem hx9)
  rw [ha] at r9
  have hx1 : (x : Int) < (n8 : Int) := by omega
  have HWx := Lib.hid (upTo_keep (Q := Wf p) (s := t3) (l := cs) (f := fun s a => spread p r a d s) x (fun a ha u hu => spread_wf HO.out hrk (HCF.out a ha) hu) HWi.out)
  have HSX : Hid (upTo (fun s a => spread p r a d s) cs t3 (x + 1) = spread p r a d (upTo (fun s a => spread p r a d s) cs t3 x)) := by
    show _ = _
    rw [upTo_succ _ _ _ hx9, ha]
  clear ha
  go_wp2_with (go_at_call 106; refine (spread_any _ r a d HI.out HO.out HWx.out MZ.out hrk haF).mono ?_; intro e wy hGy; obtain ⟨Oy, Gy, rfl, My, Fy⟩ := hGy)
  exact ⟨⟨x + 1, Oy, Gy, by omega, by go_num, Lib.hid (My.eq HSX.out.symm), Lib.hid (FZ.out.trans Fy), Lib.hid (FZ0.out.trans Fy), Lib.hid (FZ5.out.trans Fy), Lib.hid (FZ6.out.trans Fy)⟩, by simp [intOf]; omega⟩
end Go.Proofs.YtmbihjlflcjlnaaGreat
/- The contract of the solver's step (printed by genJk.py). -/
namespace Go.Df.If
theorem stepE_wf {p : Pb} (ho : Ok p) {a d : Nat} (ha : a < p.F.toNat) {n : Nat} : ∀ k ∈ outL p n, ∀ t, Wf p t → Wf p (stepE p a d t k) := fun k hk t ht => by
  unfold stepE
  split
  · exact spread_wf ho (outL_mem.1 hk).1 ha ht
  · split
    · rename_i hk2
      refine fold_keep (Q := Wf p) _ t (fun q hq u hu => ?_) ht
      have h1 := ho.pair (by rw [ho.len]; exact (outL_mem.1 hk).1) (mem_froms.1 hq).1
      exact enter1_wf ho (outL_mem.1 hk).1 hk2 ha (by omega) hu
    · exact ht
theorem seed1_wf {p : Pb} (ho : Ok p) {n : Nat} (hn : n < p.ns.length) : ∀ x ∈ seedL p n, ∀ t, Wf p t → Wf p (t.add n 0 x.f.toNat) := fun x hx t ht => by
  have := ho.seed (seedL_mem.1 hx).1
  have := ho.f1
  exact ht.add hn (by omega) (by omega)
end Go.Df.If
namespace Go.Proofs.YtmbihjlflcjlnaaGreat
open Go.RowKit Go.Df Go.Df.If
attribute [local go_sem ↓] Go.wp_at_zero Go.wp_at_succ

set_option maxRecDepth 100000 in
set_option maxHeartbeats 100000000 in
theorem tstep_any {p : Pb} {K : Kn} {w0 : World} {b : Nat} {O : Nat → Prop} {G : Gh} {s : St} (w : World) (n a d : Nat) (hI : Inp p K w0) (ho : Ok p) (hw : Wf p s) (hm : Mem p K w0 b O G w s) (hn : n < p.ns.length) (haF : a < p.F.toNat) :
    Calls Tryz.prog 59 #[.pointer (some ⟨b, 0, none⟩), .int .i64 n, .int .i64 a, .int .i64 d] w (GetMem p K w0 b O w (If.step p n a d s)) := by
  have hF2 : p.F.toNat ≤ 1024 := by have := ho.f2; omega
  have hE2 : p.es.length ≤ 32768 := (sup_parts ho.sup).2.1
  have hN2 : p.ns.length ≤ 8192 := (sup_parts ho.sup).1
  have HN1 := Lib.hid hI.nd.1.symm
  have hn1 : n < K.n1 := by rw [HN1.out]; exact hn
  have hn1' : (n : Int) < (K.n1 : Int) := by omega
  have HM := Lib.hid hm
  have HW := Lib.hid hw
  have HI := Lib.hid hI
  have HO := Lib.hid ho
  by_cases hz : a = 0 ∧ d = 0
  · obtain ⟨rfl, rfl⟩ := hz
    have B0 := hm.box
    unfold sbox at B0
    have ⟨LB, CB, FB⟩ := B0
    obtain ⟨A5, n5, c5, r5, hs5⟩ := hm.seeds.2 n hn1
    have hrs := hm.seeds.1.1
    have HS5 := Lib.hid hs5
    have hn5 : n5 = (seedL p n).length := by have := hs5.1.1.1; rw [List.length_map] at this; exact this.symm
    have HN5 := Lib.hid hn5
    have hn5b : n5 ≤ c5 ∧ c5 ≤ 9223372036854775807 := ⟨hs5.1.2.1, hs5.1.2.2.1⟩
    have h5a := hn5b.1
    have h5b := hn5b.2
    clear hm hw hI ho hs5 hn5 hn5b
    go_enter Tryz.func59, Tryz.ntmps59
    go_wp2_with fail
    go_loopw [26] (fun s26 wr => ∃ (j : Nat) (O' : Nat → Prop) (G' : Gh), j ≤ n5 ∧ s26 = .int .i64 j ∧ Hid (Mem p K w0 b O' G' wr (upTo (fun s x => s.add n 0 x.f.toNat) (seedL p n) s j)) ∧ Hid (Fx O O' w wr)) (fun s26 _ => n5 - (intOf s26).toNat)
    case atStart => exact ⟨0, O, G, Nat.zero_le _, rfl, by rw [upTo_zero]; exact HM, Lib.hid (Fx.refl _ _)⟩
    case round =>
    clear CB FB B0 LB r5 hrs HM
    obtain ⟨j, OT, GT, hj, rfl, MT, FT⟩ := hrel
    have HW1 := Lib.hid (upTo_keep (Q := Wf p) (s := s) (l := seedL p n) (f := fun s x => s.add n 0 x.f.toNat) j (seed1_wf HO.out hn) HW.out)
    by_cases hlt : j < n5
    · obtain ⟨b5, o5, rfl, hl5, hc5⟩ := (HS5.out.fx FT.out).1.1.2 (by omega)
      have hj5 : j < (seedL p n).length := by rw [← HN5.out]; exact hlt
      have r5 := hc5 j hlt
      have hmm := seedL_mem.1 (List.getElem_mem hj5)
      have hsd := HO.out.seed hmm.1
      obtain ⟨f, hf⟩ := Int.eq_ofNat_of_zero_le (show 0 ≤ ((seedL p n)[j]).f by omega)
      rw [gi_lt (by rw [List.length_map]; exact hj5), List.getElem_map, hf] at r5
      have hfF : f < p.F.toNat := by omega
      have hj1 : (j : Int) < (n5 : Int) := by omega
      have HSJ : Hid (upTo (fun s x => s.add n 0 x.f.toNat) (seedL p n) s (j + 1) = (upTo (fun s x => s.add n 0 x.f.toNat) (seedL p n) s j).add n 0 f) := by
        show _ = _
        rw [upTo_succ _ _ _ hj5, hf, Int.toNat_natCast]
      clear hf hmm hsd hc5
      go_wp2_with (go_at_call 57; refine (add_any _ n 0 f HI.out HO.out HW1.out MT.out hn haF hfF).mono ?_; intro e w9 hG9; obtain ⟨O9, G9, rfl, M9, F9⟩ := hG9)
      exact ⟨⟨j + 1, O9, G9, by omega, by go_num, Lib.hid (M9.eq HSJ.out.symm), Lib.hid (FT.out.trans F9)⟩, by simp [intOf]; omega⟩
    obtain rfl : j = n5 := by omega
    obtain ⟨t1, ht1⟩ : ∃ t1, t1 = stepA p n 0 0 s := ⟨_, rfl⟩
    have HT1 := Lib.hid ht1
    have HEQ : Hid (upTo (fun s x => s.add n 0 x.f.toNat) (seedL p n) s j = t1) := by show _ = _; rw [HT1.out, HN5.out, upTo_all]; unfold stepA; rw [if_pos ⟨rfl, rfl⟩]
    rw [HEQ.out] at MT HW1
    clear ht1 HEQ HS5 hlt
    rename World => wt
    have BT := MT.out.box
    unfold sbox at BT
    have ⟨LT, CT, FTb⟩ := BT
    obtain ⟨A6, n6, c6, r6, hs6⟩ := MT.out.out.2 n hn1
    have hro := MT.out.out.1.1
    have HS6 := Lib.hid hs6
    have hn6 : n6 = (outL p n).length := by have := hs6.1.1.1; rw [ofNats_len] at this; exact this.symm
    have hn6b : n6 ≤ 32768 := by
      have h1 : (outL p n).length ≤ (List.range p.es.length).length := List.length_filter_le _ _
      rw [List.length_range] at h1
      omega
    have HN6 := Lib.hid hn6
    clear hs6 hn6
    go_wp2_with fail
    go_loopw [43] (fun s43 wr => ∃ (j : Nat) (O' : Nat → Prop) (G' : Gh), j ≤ n6 ∧ s43 = .int .i64 j ∧ Hid (Mem p K w0 b O' G' wr (upTo (stepE p 0 0) (outL p n) t1 j)) ∧ Hid (Fx O O' w wr) ∧ Hid (Fx OT O' wt wr)) (fun s43 _ => n6 - (intOf s43).toNat)
    case atStart => exact ⟨0, OT, GT, Nat.zero_le _, rfl, by rw [upTo_zero]; exact MT, FT, Lib.hid (Fx.refl _ _)⟩
    case round =>
    rename World => wr
    clear MT FT CT FTb r6 hro
    obtain ⟨j, O1, G1, hj, rfl, MR, FR, FR0⟩ := hrel
    have BR := MR.out.box
    unfold sbox at BR
    have ⟨LR, CR, FRb⟩ := BR
    have HWj := Lib.hid (upTo_keep (Q := Wf p) (s := t1) (l := outL p n) (f := stepE p 0 0) j (stepE_wf HO.out haF) HW1.out)
    by_cases hlt : j < n6
    case neg =>
      obtain rfl : j = n6 := by omega
      have HEND : Hid (upTo (stepE p 0 0) (outL p n) t1 j = (outL p n).foldl (stepE p 0 0) (stepA p n 0 0 s)) := by show _ = _; rw [HN6.out, upTo_all, HT1.out]
      rw [HEND.out] at MR HWj
      obtain ⟨b1, o1, e1, hl1, hc1⟩ := HI.out.nd.2 (by omega)
      have q1 : wr.cell? ⟨b1, o1 + n * 3 + 1, none⟩ = some (.int .i64 (gn p.ns n).k) := (MR.out.low.cell (p := ⟨b1, _, none⟩) hl1).trans (hc1 n hn1).2.1
      have hl1r : b1 < wr.heap.size := Nat.lt_of_lt_of_le hl1 MR.out.low.size
      obtain ⟨nk, hnk⟩ : ∃ nk, (gn p.ns n).k = nk := ⟨_, rfl⟩
      rw [hnk] at q1
      have HNK := Lib.hid hnk
      clear hnk hc1 hl1
      by_cases h3 : nk = 3
      · subst h3
        go_wp2_with (go_at_call 108; refine (leave_any _ n 0 0 HI.out HO.out HWj.out MR.out hn (by omega)).mono ?_; intro e w9 hG9; obtain ⟨O9, G9, rfl, M9, F9⟩ := hG9)
        go_end0
        exact ⟨O9, G9, rfl, M9.eq (by unfold If.step; rw [if_pos (.inl HNK.out)]), FR.out.trans F9⟩
      · by_cases h4 : nk = 4
        · subst h4
          go_wp2_with (go_at_call 108; refine (leave_any _ n 0 0 HI.out HO.out HWj.out MR.out hn (by omega)).mono ?_; intro e w9 hG9; obtain ⟨O9, G9, rfl, M9, F9⟩ := hG9)
          go_end0
          exact ⟨O9, G9, rfl, M9.eq (by unfold If.step; rw [if_pos (.inr HNK.out)]), FR.out.trans F9⟩
        · have h3' : (nk == 3) = false := by simpa using h3
          have h4' : (nk == 4) = false := by simpa using h4
          have HK34 : Hid (¬ ((gn p.ns n).k = 3 ∨ (gn p.ns n).k = 4)) := by show ¬ _; rw [HNK.out]; omega
          clear h3 h4
          go_wp2_with fail
          go_end0
          exact ⟨O1, G1, rfl, MR.out.eq (by unfold If.step; rw [if_neg HK34.out]), FR.out⟩
    obtain ⟨b6, o6, rfl, hl6, hj6, r6⟩ := sin_at (HS6.out.fx FR0.out) hlt
    obtain ⟨k, hk⟩ : ∃ k, (outL p n)[j] = k := ⟨_, rfl⟩
    rw [hk] at r6
    have hkL : k ∈ outL p n := by rw [← hk]; exact List.getElem_mem hj6
    have hke : k < p.es.length := (outL_mem.1 hkL).1
    have hj1 : (j : Int) < (n6 : Int) := by omega
    have HSJ : Hid (upTo (stepE p 0 0) (outL p n) t1 (j + 1) = stepE p 0 0 (upTo (stepE p 0 0) (outL p n) t1 j) k) := by
      show _ = _
      rw [upTo_succ _ _ _ hj6, hk]
    obtain ⟨t2, ht2⟩ : ∃ t2, t2 = upTo (stepE p 0 0) (outL p n) t1 j := ⟨_, rfl⟩
    rw [← ht2] at MR HWj HSJ
    obtain ⟨b2, o2, ea, eb, -, e2, -, hl2, hk2, hea, heb, hea2, heb2, -, -, r2c, -, -⟩ := HI.out.edge HO.out MR.out.low hke
    obtain ⟨ek, hek⟩ : ∃ x, (ge p.es k).k = x := ⟨_, rfl⟩
    rw [hek] at r2c
    have HEK := Lib.hid hek
    clear hk ht2 hkL hea heb hek
    by_cases k1 : ek = 1
    · subst k1
      go_wp2_with (go_at_call 106; refine (spread_any _ k 0 0 HI.out HO.out HWj.out MR.out hke haF).mono ?_; intro e w9 hG9; obtain ⟨O9, G9, rfl, M9, F9⟩ := hG9)
      exact ⟨⟨j + 1, O9, G9, by omega, by go_num, Lib.hid (M9.eq (by rw [HSJ.out]; unfold stepE; rw [if_pos (.inl HEK.out)])), Lib.hid (FR.out.trans F9), Lib.hid (FR0.out.trans F9)⟩, by simp [intOf]; omega⟩
    by_cases k5 : ek = 5
    · subst k5
      go_wp2_with (go_at_call 106; refine (spread_any _ k 0 0 HI.out HO.out HWj.out MR.out hke haF).mono ?_; intro e w9 hG9; obtain ⟨O9, G9, rfl, M9, F9⟩ := hG9)
      exact ⟨⟨j + 1, O9, G9, by omega, by go_num, Lib.hid (M9.eq (by rw [HSJ.out]; unfold stepE; rw [if_pos (.inr HEK.out)])), Lib.hid (FR.out.trans F9), Lib.hid (FR0.out.trans F9)⟩, by simp [intOf]; omega⟩
    have k1' : (ek == 1) = false := by simpa using k1
    have k5' : (ek == 5) = false := by simpa using k5
    have HK15 : Hid (¬ ((ge p.es k).k = 1 ∨ (ge p.es k).k = 5)) := by show ¬ _; rw [HEK.out]; omega
    by_cases k2 : ek = 2
    · subst k2
      clear k1 k5
      go_wp2_with (go_at_call 107; refine (enter_any _ k 0 0 HI.out HO.out HWj.out MR.out hke HEK.out haF).mono ?_; intro e w9 hG9; obtain ⟨O9, G9, rfl, M9, F9⟩ := hG9)
      exact ⟨⟨j + 1, O9, G9, by omega, by go_num, Lib.hid (M9.eq (by rw [HSJ.out]; unfold stepE; rw [if_neg HK15.out, if_pos HEK.out])), Lib.hid (FR.out.trans F9), Lib.hid (FR0.out.trans F9)⟩, by simp [intOf]; omega⟩
    have k2' : (ek == 2) = false := by simpa using k2
    have HK2 : Hid (¬ (ge p.es k).k = 2) := by show ¬ _; rw [HEK.out]; exact k2
    clear k1 k5 k2
    go_wp2_with fail
    exact ⟨⟨j + 1, O1, G1, by omega, by go_num, Lib.hid (MR.out.eq (by rw [HSJ.out]; unfold stepE; rw [if_neg HK15.out, if_neg HK2.out])), FR, FR0⟩, by simp [intOf]; omega⟩
  · have B0 := hm.box
    unfold sbox at B0
    have ⟨LB, CB, FB⟩ := B0
    have MT := HM
    have FT : Hid (Fx O O w w) := Lib.hid (Fx.refl _ _)
    obtain ⟨OT, hOT⟩ : ∃ OT, OT = O := ⟨_, rfl⟩
    obtain ⟨GT, hGT⟩ : ∃ GT, GT = G := ⟨_, rfl⟩
    obtain ⟨t1, ht1⟩ : ∃ t1, t1 = stepA p n a d s := ⟨_, rfl⟩
    have HT1 := Lib.hid ht1
    have HTS : Hid (s = t1) := by show _ = _; rw [HT1.out]; unfold stepA; rw [if_neg hz]
    have HW1 : Hid (Wf p t1) := Lib.hid (by rw [← HTS.out]; exact HW.out)
    have MT : Hid (Mem p K w0 b OT GT w t1) := Lib.hid (by rw [← HTS.out, hOT, hGT]; exact HM.out)
    have FT : Hid (Fx O OT w w) := Lib.hid (by rw [hOT]; exact Fx.refl _ _)
    have z1 : (if (a : Int) = 0 then decide ((d : Int) = 0) else false) = false := by
      by_cases h1 : a = 0
      · rw [if_pos (by omega)]; simp; omega
      · rw [if_neg (by omega)]
    clear hOT hGT ht1 hm hw hI ho
    by_cases ha0 : a = 0
    · subst ha0
      have hd0 : ((d : Int) == 0) = false := by simp; omega
      have hd1 : (d == 0) = false := by simp; omega
      clear hz z1
      go_enter Tryz.func59, Tryz.ntmps59
      go_upto_region 6 with fail
      have BT := MT.out.box
      unfold sbox at BT
      have ⟨LT, CT, FTb⟩ := BT
      obtain ⟨A6, n6, c6, r6, hs6⟩ := MT.out.out.2 n hn1
      have hro := MT.out.out.1.1
      have HS6 := Lib.hid hs6
      have hn6 : n6 = (outL p n).length := by have := hs6.1.1.1; rw [ofNats_len] at this; exact this.symm
      have hn6b : n6 ≤ 32768 := by
        have h1 : (outL p n).length ≤ (List.range p.es.length).length := List.length_filter_le _ _
        rw [List.length_range] at h1
        omega
      have HN6 := Lib.hid hn6
      clear hs6 hn6
      go_wp2_with fail
      go_loopw [43] (fun s43 wr => ∃ (j : Nat) (O' : Nat → Prop) (G' : Gh), j ≤ n6 ∧ s43 = .int .i64 j ∧ Hid (Mem p K w0 b O' G' wr (upTo (stepE p 0 d) (outL p n) t1 j)) ∧ Hid (Fx O O' w wr) ∧ Hid (Fx OT O' w wr)) (fun s43 _ => n6 - (intOf s43).toNat)
      case atStart => exact ⟨0, OT, GT, Nat.zero_le _, rfl, by rw [upTo_zero]; exact MT, FT, Lib.hid (Fx.refl _ _)⟩
      case round =>
      rename World => wr
      clear MT FT CT FTb r6 hro
      obtain ⟨j, O1, G1, hj, rfl, MR, FR, FR0⟩ := hrel
      have BR := MR.out.box
      unfold sbox at BR
      have ⟨LR, CR, FRb⟩ := BR
      have HWj := Lib.hid (upTo_keep (Q := Wf p) (s := t1) (l := outL p n) (f := stepE p 0 d) j (stepE_wf HO.out haF) HW1.out)
      by_cases hlt : j < n6
      case neg =>
        obtain rfl : j = n6 := by omega
        have HEND : Hid (upTo (stepE p 0 d) (outL p n) t1 j = (outL p n).foldl (stepE p 0 d) (stepA p n 0 d s)) := by show _ = _; rw [HN6.out, upTo_all, HT1.out]
        rw [HEND.out] at MR HWj
        obtain ⟨b1, o1, e1, hl1, hc1⟩ := HI.out.nd.2 (by omega)
        have q1 : wr.cell? ⟨b1, o1 + n * 3 + 1, none⟩ = some (.int .i64 (gn p.ns n).k) := (MR.out.low.cell (p := ⟨b1, _, none⟩) hl1).trans (hc1 n hn1).2.1
        have hl1r : b1 < wr.heap.size := Nat.lt_of_lt_of_le hl1 MR.out.low.size
        obtain ⟨nk, hnk⟩ : ∃ nk, (gn p.ns n).k = nk := ⟨_, rfl⟩
        rw [hnk] at q1
        have HNK := Lib.hid hnk
        clear hnk hc1 hl1
        by_cases h3 : nk = 3
        · subst h3
          go_wp2_with (go_at_call 108; refine (leave_any _ n 0 d HI.out HO.out HWj.out MR.out hn (by omega)).mono ?_; intro e w9 hG9; obtain ⟨O9, G9, rfl, M9, F9⟩ := hG9)
          go_end0
          exact ⟨O9, G9, rfl, M9.eq (by unfold If.step; rw [if_pos (.inl HNK.out)]), FR.out.trans F9⟩
        · by_cases h4 : nk = 4
          · subst h4
            go_wp2_with (go_at_call 108; refine (leave_any _ n 0 d HI.out HO.out HWj.out MR.out hn (by omega)).mono ?_; intro e w9 hG9; obtain ⟨O9, G9, rfl, M9, F9⟩ := hG9)
            go_end0
            exact ⟨O9, G9, rfl, M9.eq (by unfold If.step; rw [if_pos (.inr HNK.out)]), FR.out.trans F9⟩
          · have h3' : (nk == 3) = false := by simpa using h3
            have h4' : (nk == 4) = false := by simpa using h4
            have HK34 : Hid (¬ ((gn p.ns n).k = 3 ∨ (gn p.ns n).k = 4)) := by show ¬ _; rw [HNK.out]; omega
            clear h3 h4
            go_wp2_with fail
            go_end0
            exact ⟨O1, G1, rfl, MR.out.eq (by unfold If.step; rw [if_neg HK34.out]), FR.out⟩
      obtain ⟨b6, o6, rfl, hl6, hj6, r6⟩ := sin_at (HS6.out.fx FR0.out) hlt
      obtain ⟨k, hk⟩ : ∃ k, (outL p n)[j] = k := ⟨_, rfl⟩
      rw [hk] at r6
      have hkL : k ∈ outL p n := by rw [← hk]; exact List.getElem_mem hj6
      have hke : k < p.es.length := (outL_mem.1 hkL).1
      have hj1 : (j : Int) < (n6 : Int) := by omega
      have HSJ : Hid (upTo (stepE p 0 d) (outL p n) t1 (j + 1) = stepE p 0 d (upTo (stepE p 0 d) (outL p n) t1 j) k) := by
        show _ = _
        rw [upTo_succ _ _ _ hj6, hk]
      obtain ⟨t2, ht2⟩ : ∃ t2, t2 = upTo (stepE p 0 d) (outL p n) t1 j := ⟨_, rfl⟩
      rw [← ht2] at MR HWj HSJ
      obtain ⟨b2, o2, ea, eb, -, e2, -, hl2, hk2, hea, heb, hea2, heb2, -, -, r2c, -, -⟩ := HI.out.edge HO.out MR.out.low hke
      obtain ⟨ek, hek⟩ : ∃ x, (ge p.es k).k = x := ⟨_, rfl⟩
      rw [hek] at r2c
      have HEK := Lib.hid hek
      clear hk ht2 hkL hea heb hek
      by_cases k1 : ek = 1
      · subst k1
        go_wp2_with (go_at_call 106; refine (spread_any _ k 0 d HI.out HO.out HWj.out MR.out hke haF).mono ?_; intro e w9 hG9; obtain ⟨O9, G9, rfl, M9, F9⟩ := hG9)
        exact ⟨⟨j + 1, O9, G9, by omega, by go_num, Lib.hid (M9.eq (by rw [HSJ.out]; unfold stepE; rw [if_pos (.inl HEK.out)])), Lib.hid (FR.out.trans F9), Lib.hid (FR0.out.trans F9)⟩, by simp [intOf]; omega⟩
      by_cases k5 : ek = 5
      · subst k5
        go_wp2_with (go_at_call 106; refine (spread_any _ k 0 d HI.out HO.out HWj.out MR.out hke haF).mono ?_; intro e w9 hG9; obtain ⟨O9, G9, rfl, M9, F9⟩ := hG9)
        exact ⟨⟨j + 1, O9, G9, by omega, by go_num, Lib.hid (M9.eq (by rw [HSJ.out]; unfold stepE; rw [if_pos (.inr HEK.out)])), Lib.hid (FR.out.trans F9), Lib.hid (FR0.out.trans F9)⟩, by simp [intOf]; omega⟩
      have k1' : (ek == 1) = false := by simpa using k1
      have k5' : (ek == 5) = false := by simpa using k5
      have HK15 : Hid (¬ ((ge p.es k).k = 1 ∨ (ge p.es k).k = 5)) := by show ¬ _; rw [HEK.out]; omega
      by_cases k2 : ek = 2
      · subst k2
        clear k1 k5
        go_wp2_with (go_at_call 107; refine (enter_any _ k 0 d HI.out HO.out HWj.out MR.out hke HEK.out haF).mono ?_; intro e w9 hG9; obtain ⟨O9, G9, rfl, M9, F9⟩ := hG9)
        exact ⟨⟨j + 1, O9, G9, by omega, by go_num, Lib.hid (M9.eq (by rw [HSJ.out]; unfold stepE; rw [if_neg HK15.out, if_pos HEK.out])), Lib.hid (FR.out.trans F9), Lib.hid (FR0.out.trans F9)⟩, by simp [intOf]; omega⟩
      have k2' : (ek == 2) = false := by simpa using k2
      have HK2 : Hid (¬ (ge p.es k).k = 2) := by show ¬ _; rw [HEK.out]; exact k2
      clear k1 k5 k2
      go_wp2_with fail
      exact ⟨⟨j + 1, O1, G1, by omega, by go_num, Lib.hid (MR.out.eq (by rw [HSJ.out]; unfold stepE; rw [if_neg HK15.out, if_neg HK2.out])), FR, FR0⟩, by simp [intOf]; omega⟩
    · have ha1 : ((a : Int) == 0) = false := by simp; omega
      have ha2 : (a == 0) = false := by simp; omega
      clear hz z1 ha0
      go_enter Tryz.func59, Tryz.ntmps59
      go_upto_region 6 with fail
      have BT := MT.out.box
      unfold sbox at BT
      have ⟨LT, CT, FTb⟩ := BT
      obtain ⟨A6, n6, c6, r6, hs6⟩ := MT.out.out.2 n hn1
      have hro := MT.out.out.1.1
      have HS6 := Lib.hid hs6
      have hn6 : n6 = (outL p n).length := by have := hs6.1.1.1; rw [ofNats_len] at this; exact this.symm
      have hn6b : n6 ≤ 32768 := by
        have h1 : (outL p n).length ≤ (List.range p.es.length).length := List.length_filter_le _ _
        rw [List.length_range] at h1
        omega
      have HN6 := Lib.hid hn6
      clear hs6 hn6
      go_wp2_with fail
      go_loopw [43] (fun s43 wr => ∃ (j : Nat) (O' : Nat → Prop) (G' : Gh), j ≤ n6 ∧ s43 = .int .i64 j ∧ Hid (Mem p K w0 b O' G' wr (upTo (stepE p a d) (outL p n) t1 j)) ∧ Hid (Fx O O' w wr) ∧ Hid (Fx OT O' w wr)) (fun s43 _ => n6 - (intOf s43).toNat)
      case atStart => exact ⟨0, OT, GT, Nat.zero_le _, rfl, by rw [upTo_zero]; exact MT, FT, Lib.hid (Fx.refl _ _)⟩
      case round =>
      rename World => wr
      clear MT FT CT FTb r6 hro
      obtain ⟨j, O1, G1, hj, rfl, MR, FR, FR0⟩ := hrel
      have BR := MR.out.box
      unfold sbox at BR
      have ⟨LR, CR, FRb⟩ := BR
      have HWj := Lib.hid (upTo_keep (Q := Wf p) (s := t1) (l := outL p n) (f := stepE p a d) j (stepE_wf HO.out haF) HW1.out)
      by_cases hlt : j < n6
      case neg =>
        obtain rfl : j = n6 := by omega
        have HEND : Hid (upTo (stepE p a d) (outL p n) t1 j = (outL p n).foldl (stepE p a d) (stepA p n a d s)) := by show _ = _; rw [HN6.out, upTo_all, HT1.out]
        rw [HEND.out] at MR HWj
        obtain ⟨b1, o1, e1, hl1, hc1⟩ := HI.out.nd.2 (by omega)
        have q1 : wr.cell? ⟨b1, o1 + n * 3 + 1, none⟩ = some (.int .i64 (gn p.ns n).k) := (MR.out.low.cell (p := ⟨b1, _, none⟩) hl1).trans (hc1 n hn1).2.1
        have hl1r : b1 < wr.heap.size := Nat.lt_of_lt_of_le hl1 MR.out.low.size
        obtain ⟨nk, hnk⟩ : ∃ nk, (gn p.ns n).k = nk := ⟨_, rfl⟩
        rw [hnk] at q1
        have HNK := Lib.hid hnk
        clear hnk hc1 hl1
        by_cases h3 : nk = 3
        · subst h3
          go_wp2_with (go_at_call 108; refine (leave_any _ n a d HI.out HO.out HWj.out MR.out hn (by omega)).mono ?_; intro e w9 hG9; obtain ⟨O9, G9, rfl, M9, F9⟩ := hG9)
          go_end0
          exact ⟨O9, G9, rfl, M9.eq (by unfold If.step; rw [if_pos (.inl HNK.out)]), FR.out.trans F9⟩
        · by_cases h4 : nk = 4
          · subst h4
            go_wp2_with (go_at_call 108; refine (leave_any _ n a d HI.out HO.out HWj.out MR.out hn (by omega)).mono ?_; intro e w9 hG9; obtain ⟨O9, G9, rfl, M9, F9⟩ := hG9)
            go_end0
            exact ⟨O9, G9, rfl, M9.eq (by unfold If.step; rw [if_pos (.inr HNK.out)]), FR.out.trans F9⟩
          · have h3' : (nk == 3) = false := by simpa using h3
            have h4' : (nk == 4) = false := by simpa using h4
            have HK34 : Hid (¬ ((gn p.ns n).k = 3 ∨ (gn p.ns n).k = 4)) := by show ¬ _; rw [HNK.out]; omega
            clear h3 h4
            go_wp2_with fail
            go_end0
            exact ⟨O1, G1, rfl, MR.out.eq (by unfold If.step; rw [if_neg HK34.out]), FR.out⟩
      obtain ⟨b6, o6, rfl, hl6, hj6, r6⟩ := sin_at (HS6.out.fx FR0.out) hlt
      obtain ⟨k, hk⟩ : ∃ k, (outL p n)[j] = k := ⟨_, rfl⟩
      rw [hk] at r6
      have hkL : k ∈ outL p n := by rw [← hk]; exact List.getElem_mem hj6
      have hke : k < p.es.length := (outL_mem.1 hkL).1
      have hj1 : (j : Int) < (n6 : Int) := by omega
      have HSJ : Hid (upTo (stepE p a d) (outL p n) t1 (j + 1) = stepE p a d (upTo (stepE p a d) (outL p n) t1 j) k) := by
        show _ = _
        rw [upTo_succ _ _ _ hj6, hk]
      obtain ⟨t2, ht2⟩ : ∃ t2, t2 = upTo (stepE p a d) (outL p n) t1 j := ⟨_, rfl⟩
      rw [← ht2] at MR HWj HSJ
      obtain ⟨b2, o2, ea, eb, -, e2, -, hl2, hk2, hea, heb, hea2, heb2, -, -, r2c, -, -⟩ := HI.out.edge HO.out MR.out.low hke
      obtain ⟨ek, hek⟩ : ∃ x, (ge p.es k).k = x := ⟨_, rfl⟩
      rw [hek] at r2c
      have HEK := Lib.hid hek
      clear hk ht2 hkL hea heb hek
      by_cases k1 : ek = 1
      · subst k1
        go_wp2_with (go_at_call 106; refine (spread_any _ k a d HI.out HO.out HWj.out MR.out hke haF).mono ?_; intro e w9 hG9; obtain ⟨O9, G9, rfl, M9, F9⟩ := hG9)
        exact ⟨⟨j + 1, O9, G9, by omega, by go_num, Lib.hid (M9.eq (by rw [HSJ.out]; unfold stepE; rw [if_pos (.inl HEK.out)])), Lib.hid (FR.out.trans F9), Lib.hid (FR0.out.trans F9)⟩, by simp [intOf]; omega⟩
      by_cases k5 : ek = 5
      · subst k5
        go_wp2_with (go_at_call 106; refine (spread_any _ k a d HI.out HO.out HWj.out MR.out hke haF).mono ?_; intro e w9 hG9; obtain ⟨O9, G9, rfl, M9, F9⟩ := hG9)
        exact ⟨⟨j + 1, O9, G9, by omega, by go_num, Lib.hid (M9.eq (by rw [HSJ.out]; unfold stepE; rw [if_pos (.inr HEK.out)])), Lib.hid (FR.out.trans F9), Lib.hid (FR0.out.trans F9)⟩, by simp [intOf]; omega⟩
      have k1' : (ek == 1) = false := by simpa using k1
      have k5' : (ek == 5) = false := by simpa using k5
      have HK15 : Hid (¬ ((ge p.es k).k = 1 ∨ (ge p.es k).k = 5)) := by show ¬ _; rw [HEK.out]; omega
      by_cases k2 : ek = 2
      · subst k2
        clear k1 k5
        go_wp2_with (go_at_call 107; refine (enter_any _ k a d HI.out HO.out HWj.out MR.out hke HEK.out haF).mono ?_; intro e w9 hG9; obtain ⟨O9, G9, rfl, M9, F9⟩ := hG9)
        exact ⟨⟨j + 1, O9, G9, by omega, by go_num, Lib.hid (M9.eq (by rw [HSJ.out]; unfold stepE; rw [if_neg HK15.out, if_pos HEK.out])), Lib.hid (FR.out.trans F9), Lib.hid (FR0.out.trans F9)⟩, by simp [intOf]; omega⟩
      have k2' : (ek == 2) = false := by simpa using k2
      have HK2 : Hid (¬ (ge p.es k).k = 2) := by show ¬ _; rw [HEK.out]; exact k2
      clear k1 k5 k2
      go_wp2_with fail
      exact ⟨⟨j + 1, O1, G1, by omega, by go_num, Lib.hid (MR.out.eq (by rw [HSJ.out]; unfold stepE; rw [if_neg HK15.out, if_neg HK2.out])), FR, FR0⟩, by simp [intOf]; omega⟩
end Go.Proofs.YtmbihjlflcjlnaaGreat
