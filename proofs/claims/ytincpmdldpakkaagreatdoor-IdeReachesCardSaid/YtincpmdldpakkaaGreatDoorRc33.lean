/- Texts: Tc Aw Az Ai. -/
import Derived.Test.YtincpmdldpakkaaGreatDoorRc23
import Derived.Test.YtincpmdldpakkaaGreatDoorRc28
import Derived.Test.YtincpmdldpakkaaGreatDoorRc32
import Derived.Test.YtincpmdldpakkaaGreatDoorRc24
import Derived.Test.YtincpmdldpakkaaGreatDoorRc26
import Derived.Test.YtincpmdldpakkaaGreatDoorRc18
namespace Go.Df
open Go.RowKit
theorem If.Sds.take_all {w : World} {A : Option Addr} {n m : Nat} {l : List If.Sd} (h : If.Sds w A n (l.take m)) (hm : l.length = m) : If.Sds w A n l := by
 rwa [← hm, List.take_length] at h
theorem Fls.rowT {w0 w : World} {A : Option Addr} {n : Nat} {ls : List (List Sp.Xp)} (h : Fls w0 A n ls) (hb : Below w0.heap.size w0 w) {j : Nat} (hj : j < n) :
  ∃ b o Ai ni ci, A = some ⟨b, o, none⟩ ∧ b < w0.heap.size ∧ w.cell? ⟨b, o + j, none⟩ = some (.slice Ai ni ci) ∧ Xps w0 Ai ni (Sp.gl ls j) := by
 obtain ⟨b, o, rfl, hl, hc⟩ := h.2 (by omega)
 obtain ⟨Ai, ni, ci, h1, h2⟩ := hc j hj
 exact ⟨b, o, Ai, ni, ci, rfl, hl, (hb.cell (p := ⟨b, _, none⟩) hl).trans h1, h2⟩
end Go.Df
namespace Go.Proofs.YtincpmdldpakkaaGreatDoor
open Go.RowKit Go.Df Go.Df.Iv Go.Df.Sp
attribute [local go_sem ↓] Go.wp_at_zero Go.wp_at_succ
theorem pair_info9 : (Tryz.prog.info? 101).map (fun i => (i.zero, i.size, i.bytes)) = some (some (.agg #[.int .i64 0, .int .i64 0]), 2, 16) := by kernel_rfl
theorem flow_info9 : (Tryz.prog.info? 123).map (fun i => (i.zero, i.size, i.bytes)) = some (some (.slice none 0 0), 1, 24) := by kernel_rfl
theorem seed_info9 : (Tryz.prog.info? 127).map (fun i => (i.zero, i.size, i.bytes)) = some (some (.agg #[.int .i64 0, .int .i64 0]), 2, 16) := by kernel_rfl
def GetF (p : Vb) (n1 n2 n3 n4 : Nat) (w : World) (e : Ending) (w' : World) : Prop :=
 ∃ N1 d1 N2 d2 N3 d3 N4 d4, e = .returned (.tuple #[.agg #[.slice N1 n1 d1, .slice N2 n2 d2, .int .i64 p.mn, .int .i64 p.F, .slice N3 n3 d3, .slice N4 n4 d4], .int .i64 0]) ∧ Nds w' N1 n1 p.ns ∧ Eds w' N2 n2 p.es ∧ If.Flw w' N3 n3 (pf p).fl ∧ If.Sds w' N4 n4 (pf p).sd ∧ Below w.heap.size w w'
set_option maxRecDepth 100000 in
set_option maxHeartbeats 20000000 in
theorem pfacts_ok {p : Vb} (A1 A2 A3 A4 : Option Addr) (n1 c1 n2 c2 n3 c3 n4 c4 : Nat) (w : World) (h : Lies p A1 A2 A3 A4 n1 n2 n3 n4 w) (ho : VOk p)
   (hchk : ∀ w1, Below w.heap.size w w1 → Calls Tryz.prog 31 #[.agg #[.slice A1 n1 c1, .slice A2 n2 c2, .int .i64 p.mn, .int .i64 p.F, .slice A3 n3 c3, .slice A4 n4 c4]] w1 fun e w' => e = .returned (.int .i64 0) ∧ Below w1.heap.size w1 w') :
   Calls Tryz.prog 18 #[.agg #[.slice A1 n1 c1, .slice A2 n2 c2, .int .i64 p.mn, .int .i64 p.F, .slice A3 n3 c3, .slice A4 n4 c4]] w (GetF p n1 n2 n3 n4 w) := by
 obtain ⟨i0, hi, hz0, hz1, hz2⟩ := info_parts pair_info9
 obtain ⟨j0, ji, jz0, jz1, jz2⟩ := info_parts flow_info9
 obtain ⟨k0, ki, kz0, kz1, kz2⟩ := info_parts seed_info9
 obtain ⟨MR, hMR⟩ : ∃ M, (List.replicate n3 (Value.slice none 0 0)).toArray = M := ⟨_, rfl⟩
 have hn4 := h.n4
 have hN1 : n1 ≤ 8192 := by have := (If.sup_parts ho.sup).1; have := h.nd.1; omega
 have hn32 : n3 = n2 := by have := ho.len; have := h.fl.1; have := h.ed.1; omega
 have hN2 : n2 ≤ 32768 := by have := (If.sup_parts ho.sup).2.1; have := h.ed.1; omega
 have hN3 : n3 ≤ 32768 := by omega
 have H32 := Lib.hid hn32
 clear hn32
 have hmkR := fun w => run_make1 (P := Tryz.prog) Tryz.underlying55 ji jz0 jz1 jz2 rfl n3 (by omega) (by omega) MR hMR w
 have HMR := Lib.hid hMR
 have HI := Lib.hid h
 have HO := Lib.hid ho
 have HCHK := Lib.hid hchk
 clear hMR h ho hchk
 go_enter Tryz.func18, Tryz.ntmps18
 go_upto_region 1 with fail
 refine wp_named (fun W => ∃ b0 b1, w.heap.size = b0 ∧ w.heap.size + 1 = b1 ∧ Blk W b0 [.slice A1 n1 c1, .slice A2 n2 c2, .int .i64 p.mn, .int .i64 p.F, .slice A3 n3 c3, .slice A4 n4 c4] ∧ Blk W b1 [.slice none 0 0, .slice none 0 0, .int .i64 0, .int .i64 0, .slice none 0 0, .slice none 0 0] ∧ Below w.heap.size w W) ⟨_, _, rfl, rfl, ?_, ?_, ?_⟩ ?_
 · exact (Blk.new _ _ _ _ (by first | rfl | simp)).alloc _
 · exact kbn
 · go_grown
 rintro W ⟨b0, b1, e0, e1, B0, B1, hB⟩
 rw [e1, e0]
 have G0 : w.heap.size ≤ b0 := by omega
 have n01 : b0 ≠ b1 := by omega
 have G1 : w.heap.size ≤ b1 := by omega
 have n10 : b1 ≠ b0 := by omega
 clear e0 e1
 have ⟨L0, C0, F0⟩ := B0
 have ⟨L1, C1, F1⟩ := B1
 go_upto_region 2 with (go_at_call 31; refine (HCHK.out _ hB).mono ?_; rintro e w1 ⟨rfl, hb1⟩)
 have hkw1 : Kept [] w w1 := ((Kept.refl _ _).call hB).call hb1
 have HB0 := Lib.hid (B0.later hb1)
 have HB1 := Lib.hid (B1.later hb1)
 have hb1w : w.heap.size ≤ b1 := by simpa using G1
 have ⟨L01, C01, F01⟩ := HB0.out
 clear C0 F0 C1 F1
 go_upto_region 4 with fail
 go_cut [5] (fun s5 wx => ∃ gq gf, s5 = .pointer (some ⟨gq, 0, none⟩) ∧ Blk wx gq [.slice none 0 0, .slice none 0 0, .int .i64 0, .int .i64 p.F, .slice (some ⟨gf, 0, none⟩) n3 n3, .slice none 0 0] ∧ wx.heap[gf]? = some (.cells MR 123 (0, 0)) ∧ Kept [] w1 wx ∧ w1.heap.size ≤ gq ∧ w1.heap.size ≤ gf ∧ gq ≠ gf)
 case first =>
   refine wp_region_E 8 (fun w' => SX0 w1 w') (by kernel_rfl) (by (exact kp0)) (fun hHeld => ?_)
   refine WE_tk 0 ?_
   refine WE_tk 1 ?_
   refine WE_tk 2 ?_
   refine WE_tk 3 ?_
   refine WE_tk 4 ?_
   refine WE_two 5 7 rfl rfl (by kernel_rfl) (fun K hK => ?_) (fun K hK => ?_)
   · go_simp
     refine hK.out _ _ ?_ (fun hHeld => ?_)
     · (exact kp0)
     clear hK K
     refine WE_put ?_
     refine WE_tk 6 ?_
     refine WE_step 7 rfl (by kernel_rfl) (fun K hK => ?_)
     go_simp
     refine hK.out _ _ ?_ (fun hHeld => ?_)
     · (exact kp0)
     clear hK K
     refine WE_put ?_
     refine WE_last rfl (by kernel_rfl) (fun K hK => ?_)
     go_simp
     refine hK.out _ _ ?_
     clear hK K
     ((try go_wp2_with fail); go_meet; (first | refine ⟨w1.heap.size + 1, w1.heap.size, rfl, ?_, ?_, ?_, by omega, by omega, by omega⟩ | refine ⟨w1.heap.size, w1.heap.size + 1, rfl, ?_, ?_, ?_, by omega, by omega, by omega⟩); (· refine (Kept.refl [] _).drew.blk (by simp) ?_; first | exact Blk.new _ _ _ _ (by simp) | exact (Blk.new _ _ _ _ rfl).alloc _); (· refine ((Kept.refl [] _).drew.block _ (by first | (simp; done) | (simp; omega)) (by simp)).trans ?_; first | exact (((Kept.refl [] _).alloc _).block _ (by simp) (by simp)).trans (heap_alloc_new _ _) | (have h9 := heap_alloc_new (w1.alloc (.cells #[.slice none 0 0, .slice none 0 0, .int .i64 0, .int .i64 p.F, .slice (some ⟨w1.heap.size + 1, 0, none⟩) n3 n3, .slice none 0 0] 58)) (.cells MR 123); simpa using h9)); exact (((Kept.refl [] _).alloc _).alloc _).drew)
   · go_simp
     refine hK.out _ _ ?_ (fun hHeld => ?_)
     · (exact kp0)
     clear hK K
     refine WE_put ?_
     refine WE_step 5 rfl (by kernel_rfl) (fun K hK => ?_)
     go_simp
     refine hK.out _ _ ?_ (fun hHeld => ?_)
     · (exact kp0)
     clear hK K
     refine WE_put ?_
     refine WE_tk 6 ?_
     refine WE_last rfl (by kernel_rfl) (fun K hK => ?_)
     go_simp
     refine hK.out _ _ ?_
     clear hK K
     ((try go_wp2_with fail); go_meet; (first | refine ⟨w1.heap.size + 1, w1.heap.size, rfl, ?_, ?_, ?_, by omega, by omega, by omega⟩ | refine ⟨w1.heap.size, w1.heap.size + 1, rfl, ?_, ?_, ?_, by omega, by omega, by omega⟩); (· refine (Kept.refl [] _).drew.blk (by simp) ?_; first | exact Blk.new _ _ _ _ (by simp) | exact (Blk.new _ _ _ _ rfl).alloc _); (· refine ((Kept.refl [] _).drew.block _ (by first | (simp; done) | (simp; omega)) (by simp)).trans ?_; first | exact (((Kept.refl [] _).alloc _).block _ (by simp) (by simp)).trans (heap_alloc_new _ _) | (have h9 := heap_alloc_new (w1.alloc (.cells #[.slice none 0 0, .slice none 0 0, .int .i64 0, .int .i64 p.F, .slice (some ⟨w1.heap.size + 1, 0, none⟩) n3 n3, .slice none 0 0] 58)) (.cells MR 123); simpa using h9)); exact (((Kept.refl [] _).alloc _).alloc _).drew)
 case rest =>
 rename World => w2
 obtain ⟨gq, gf, rfl, hbq, hgf, hk2, hq1, hf1, hqf⟩ := hcut
 have hs2 : w1.heap.size ≤ w2.heap.size := hk2.size
 have HK2 := Lib.hid hk2
 have HKW2 : Hid (Kept [] w w2) := Lib.hid (keptTrans hkw1 hk2)
 have HB02 := Lib.hid (hk2.blk (by simp) HB0.out)
 have HB12 := Lib.hid (hk2.blk (by simp) HB1.out)
 have ⟨L02, C02, F02⟩ := HB02.out
 have ⟨Lq2, Cq2, Fq2⟩ := hbq
 have HBQ := Lib.hid hbq
 have HGF := Lib.hid hgf
 have HND := Lib.hid (HI.out.nd.later HKW2.out.toBelow)
 have HED := Lib.hid (HI.out.ed.later HKW2.out.toBelow)
 clear hbq hgf C01 F01 hk2
 go_upto_region 5 with fail
 refine wp_region_E 13 (fun w' => SX0 w2 w') (by kernel_rfl) (by (exact kp0)) (fun hHeld => ?_)
 refine WE_tk 0 ?_
 refine WE_tk 1 ?_
 refine WE_tk 2 ?_
 refine WE_tk 4 ?_
 refine WE_tk 5 ?_
 refine WE_tk 6 ?_
 refine WE_tk 8 ?_
 refine WE_tk 9 ?_
 refine WE_tk 10 ?_
 refine WE_step 3 rfl (by kernel_rfl) (fun K hK => ?_)
 go_simp
 (first | (go_at_call 46; refine (cloneN_any A1 n1 c1 p.ns _ (HND.out.later (Kept.refl [] _).drew.toBelow) (by omega)).mono ?_; rintro e w3 ⟨N1, d1, rfl, hN3, hA3, hb3⟩; have HK3 := Lib.hid (((Kept.refl [] w2).drew).call hb3); have HN3 := Lib.hid hN3; have HA3 := Lib.hid hA3; clear hN3 hA3) | (go_at_call 47; refine (cloneE_any A2 n2 c2 p.es _ (HED.out.later HK3.out.toBelow) (by omega)).mono ?_; rintro e w4 ⟨N2, d2, rfl, hN4, hA4, hb4⟩; have HK4 := Lib.hid (HK3.out.call hb4); have HN4 := Lib.hid hN4; have HA4 := Lib.hid hA4; have HN34 := Lib.hid (HN3.out.later hb4); clear hN4 hA4))
 (try go_wp2_with fail)
 refine hK.out _ _ ?_ (fun hHeld => ?_)
 · (exact kp0)
 clear hK K
 refine WE_put ?_
 refine WE_step 7 rfl (by kernel_rfl) (fun K hK => ?_)
 go_simp
 (first | (go_at_call 46; refine (cloneN_any A1 n1 c1 p.ns _ (HND.out.later (Kept.refl [] _).drew.toBelow) (by omega)).mono ?_; rintro e w3 ⟨N1, d1, rfl, hN3, hA3, hb3⟩; have HK3 := Lib.hid (((Kept.refl [] w2).drew).call hb3); have HN3 := Lib.hid hN3; have HA3 := Lib.hid hA3; clear hN3 hA3) | (go_at_call 47; refine (cloneE_any A2 n2 c2 p.es _ (HED.out.later HK3.out.toBelow) (by omega)).mono ?_; rintro e w4 ⟨N2, d2, rfl, hN4, hA4, hb4⟩; have HK4 := Lib.hid (HK3.out.call hb4); have HN4 := Lib.hid hN4; have HA4 := Lib.hid hA4; have HN34 := Lib.hid (HN3.out.later hb4); clear hN4 hA4))
 (try go_wp2_with fail)
 refine hK.out _ _ ?_ (fun hHeld => ?_)
 · (exact kp0)
 clear hK K
 refine WE_put ?_
 refine WE_tk 11 ?_
 refine WE_tk 12 ?_
 refine WE_last rfl (by kernel_rfl) (fun K hK => ?_)
 go_simp
 refine hK.out _ _ ?_
 clear hK K
 have hs34 : w2.heap.size ≤ w3.heap.size := HK3.out.size
 refine act_namedT (fun V => Blk V gq [.slice N1 n1 d1, .slice N2 n2 d2, .int .i64 p.mn, .int .i64 p.F, .slice (some ⟨gf, 0, none⟩) n3 n3, .slice none 0 0] ∧ Kept [gq] w2 V ∧ Nds V N1 n1 p.ns ∧ Eds V N2 n2 p.es) ⟨(((HK4.out.blk (by simp) HBQ.out).set 0 _).set 1 _).set 2 _, (((keptWide HK4.out (by simp)).set gq 0 _ (.inl (by simp))).set gq 1 _ (.inl (by simp))).set gq 2 _ (.inl (by simp)), ?_, ?_⟩ ?_
 · refine HN34.out.keptX (X := [gq]) ((((Kept.refl _ _).set gq 0 _ (.inl (by simp))).set gq 1 _ (.inl (by simp))).set gq 2 _ (.inl (by simp))) (fun a ha => ?_)
   have := HA3.out a ha
   simp at this ⊢
   omega
 · refine HN4.out.keptX (X := [gq]) ((((Kept.refl _ _).set gq 0 _ (.inl (by simp))).set gq 1 _ (.inl (by simp))).set gq 2 _ (.inl (by simp))) (fun a ha => ?_)
   have := HA4.out a ha
   simp; omega
 rintro V ⟨BQV, hkV, HNV, HEV⟩
 have HKV := Lib.hid hkV
 have HNDV := Lib.hid HNV
 have HEDV := Lib.hid HEV
 have HBQV := Lib.hid BQV
 have hb0q : b0 ≠ gq := by have := HB0.out.1; omega
 have hb0f : b0 ≠ gf := by have := HB0.out.1; omega
 have hb1q : b1 ≠ gq := by have := HB1.out.1; omega
 have hb1f : b1 ≠ gf := by have := HB1.out.1; omega
 have HB0V := Lib.hid (hkV.blk (b := b0) (by simpa using hb0q) HB02.out)
 have HB1V := Lib.hid (hkV.blk (b := b1) (by simpa using hb1q) HB12.out)
 have ⟨LqV, CqV, FqV⟩ := BQV
 have ⟨L0V, C0V, F0V⟩ := HB0V.out
 have HBW : Hid (Below w.heap.size w V) := Lib.hid (Kept.below (X := [gq]) HKW2.out.toBelow HKW2.out.size (fun y hy => by have := hkw1.size; simp at hy; omega) hkV)
 have hgf2 : gf < w2.heap.size := (Array.getElem?_eq_some_iff.1 HGF.out).1
 have hgfV : V.heap[gf]? = some (.cells MR 123 (0, 0)) := (hkV.block gf hgf2 (by simpa using hqf.symm)).trans HGF.out
 obtain ⟨base, hbase⟩ : ∃ base, V.heap.size = base := ⟨_, rfl⟩
 have hzb : gf < base := by have := hkV.size; omega
 have hqb : gq < base := by omega
 have h0b : b0 < base := by have := HB0V.out.1; omega
 have hwb : w.heap.size ≤ base := by have := HBW.out.size; omega
 have hwf : w.heap.size ≤ gf := by have := hkw1.size; omega
 have hwq : w.heap.size ≤ gq := by have := hkw1.size; omega
 have HBASE := Lib.hid hbase
 have FO0 : Hid (If.Fo (pf p).fl n3 0 base V gf (fun _ => 0)) := Lib.hid ⟨by omega, hzb, fun x => by simp [World.frozen?, hgfV], fun n hn => absurd hn (Nat.not_lt_zero n), fun x _ hx => by
   have h9 := rep_at (v := Value.slice none 0 0) hx
   rw [HMR.out] at h9
   simpa [World.cell?, hgfV] using h9, fun n hn => absurd hn (Nat.not_lt_zero n), fun n hn => absurd hn (Nat.not_lt_zero n)⟩
 have HN1 : Hid (∀ a, N1 = some a → a.block ≠ gf ∧ a.block ≠ gq ∧ a.block ≠ b1) := Lib.hid (fun a ha => by
   have h1 := HA3.out a ha
   have h2 := HB12.out.1
   simp at h1
   omega)
 have HN2 : Hid (∀ a, N2 = some a → a.block ≠ gf ∧ a.block ≠ gq ∧ a.block ≠ b1) := Lib.hid (fun a ha => by
   have h1 := HA4.out a ha
   have h2 := HB12.out.1
   omega)
 clear HNV HEV BQV hkV hgfV hgf2 hbase hmkR Cq2 Fq2 Lq2 C02 F02 L02
 go_wp2_with fail
 clear CqV FqV LqV C0V F0V L0V
 go_loopw [42] (fun s wr => ∃ (i : Nat) (rw : Nat → Nat), i ≤ n3 ∧ s = .int .i64 i ∧ Hid (Kept [gf] V wr) ∧ Hid (If.Fo (pf p).fl n3 i base wr gf rw)) (fun s _ => n3 - (intOf s).toNat)
 case atStart => exact ⟨0, _, Nat.zero_le _, rfl, Lib.hid (Kept.refl _ _), FO0⟩
 case round =>
 clear FO0
 obtain ⟨i, rw, hi9, rfl, HKR, FO⟩ := hrel
 have hzr : base ≤ wr.heap.size := by have := HKR.out.size; have := HBASE.out; omega
 have HBR : Hid (Below w.heap.size w wr) := Lib.hid (Kept.below (X := [gf]) HBW.out (by have := HBASE.out; omega) (fun y hy => by simp at hy; omega) HKR.out)
 have HB0R := Lib.hid (HKR.out.blk (b := b0) (by simpa using hb0f) HB0V.out)
 have HBQR := Lib.hid (HKR.out.blk (b := gq) (by simpa using hqf) HBQV.out)
 by_cases hlt : i < n3
 case neg =>
   obtain rfl : i = n3 := by omega
   clear hlt
   have HB1R := Lib.hid (HKR.out.blk (b := b1) (by simpa using hb1f) HB1V.out)
   have HNDR := Lib.hid (HNDV.out.keptX HKR.out (fun a ha => by simpa using (HN1.out a ha).1))
   have HEDR := Lib.hid (HEDV.out.keptX HKR.out (fun a ha => by simpa using (HN2.out a ha).1))
   have HLF : Hid ((pf p).fl.length = i) := Lib.hid (by have := HI.out.fl.1; simpa [pf] using this)
   have HLS : Hid ((pf p).sd.length = n4) := Lib.hid (by have := HI.out.sd.1; simpa [pf] using this)
   obtain ⟨bs, hbs⟩ : ∃ bs, wr.heap.size = bs := ⟨_, rfl⟩
   have HBS := Lib.hid hbs
   have hqs : gq < bs := by omega
   have h1s : b1 < bs := by have := HB1R.out.1; omega
   have h0s : b0 < bs := by omega
   have hb1q' : gq ≠ b1 := fun e => hb1q e.symm
   have ⟨LqR, CqR, FqR⟩ := HBQR.out
   have ⟨L0R, C0R, F0R⟩ := HB0R.out
   clear hbs
   go_wp2_with fail
   clear LqR CqR FqR L0R C0R F0R
   go_loopw [75] (fun s wz => ∃ (k : Nat) (A : Option Addr) (c : Nat), k ≤ n4 ∧ s = .int .i64 k ∧ Hid (Blk wz gq [.slice N1 n1 d1, .slice N2 n2 d2, .int .i64 p.mn, .int .i64 p.F, .slice (some ⟨gf, 0, none⟩) i i, .slice A k c]) ∧ Hid (wz.ownsRow bs 127 2 (.slice A k c) k (If.sdcells ((pf p).sd.take k))) ∧ Hid (Kept [gq] wr wz)) (fun s _ => n4 - (intOf s).toNat)
   case atStart => exact ⟨0, none, 0, Nat.zero_le _, rfl, HBQR, Lib.hid (World.ownsRow_nil _ _ _ _), Lib.hid (Kept.refl _ _)⟩
   case round =>
   rename World => wz
   obtain ⟨k, A, c, hk9, rfl, HBQZ, OWN, HKZ⟩ := hrel
   have HB0Z := Lib.hid (HKZ.out.blk (b := b0) (by simpa using hb0q) HB0R.out)
   have hwz : bs ≤ wz.heap.size := by have := HKZ.out.size; have := HBS.out; omega
   have hbz : Hid (Below w.heap.size w wz) := Lib.hid (Kept.below (X := [gq]) HBR.out HBR.out.size (fun y hy => by simp at hy; omega) HKZ.out)
   by_cases hltk : k < n4
   case neg =>
     obtain rfl : k = n4 := by omega
     have ⟨LqZ, CqZ, FqZ⟩ := HBQZ.out
     have ⟨L1Z, C1Z, F1Z⟩ := HKZ.out.blk (b := b1) (by simpa using hb1q) HB1R.out
     have B1Z := HKZ.out.blk (b := b1) (by simpa using hb1q) HB1R.out
     go_wp2_with fail
     refine retNamed9 (fun X => Blk X b1 [.slice N1 n1 d1, .slice N2 n2 d2, .int .i64 p.mn, .int .i64 p.F, .slice (some ⟨gf, 0, none⟩) i i, .slice A k c] ∧ Kept [b1] wz X) ⟨(((((B1Z.set 0 _).set 1 _).set 2 _).set 3 _).set 4 _).set 5 _, ((((((Kept.refl [b1] wz).set b1 0 _ (.inl (by simp))).set b1 1 _ (.inl (by simp))).set b1 2 _ (.inl (by simp))).set b1 3 _ (.inl (by simp))).set b1 4 _ (.inl (by simp))).set b1 5 _ (.inl (by simp))⟩ ?_
     rintro X ⟨BX, hkX⟩
     have ⟨LX, CX, FX⟩ := BX
     have hk2 : Kept [gq, b1] wr X := ((Kept.refl [gq, b1] wr).next HKZ.out (fun y hy => by simp at hy; left; simp [hy])).next hkX (fun y hy => by simp at hy; left; simp [hy])
     refine bodyPost_ret (by simp [results, Tryz.results18, go_sem, CX]; try rfl) rfl ?_
     refine ⟨N1, d1, N2, d2, some ⟨gf, 0, none⟩, i, A, c, rfl, ?_, ?_, ?_, ?_, ?_⟩
     · exact HNDR.out.keptX hk2 (fun a ha => by have := HN1.out a ha; simp; omega)
     · exact HEDR.out.keptX hk2 (fun a ha => by have := HN2.out a ha; simp; omega)
     · exact (FO.out.kept hk2 (by have := hb1f; simp; omega) (fun n hn => by have := FO.out.rb n hn; have := HB1V.out.1; have := HBASE.out; simp; omega)).flw HLF.out
     · refine (If.Sds.own (own_keptT OWN.out hkX (fun g hg => by have := own_ge OWN.out hg; simp; omega)) ?_).1.take_all ?_
       · rw [List.length_take, HLS.out]; omega
       · rw [← HLS.out]
     · exact Kept.below (X := [b1]) hbz.out hbz.out.size (fun y hy => by simp at hy; omega) hkX
   obtain ⟨b4, o4, e4, hl4, hc4⟩ := HI.out.sd.2 (by omega)
   subst e4
   obtain ⟨sn, sf, sk, sv, es⟩ : ∃ sn sf sk sv, gs p.sd k = ⟨sn, sf, sk, sv⟩ := ⟨_, _, _, _, rfl⟩
   have HES : Hid (If.gd (pf p).sd k = ⟨sn, sf⟩) := Lib.hid (by show If.gd (p.sd.map fun s => ⟨s.n, s.f⟩) k = _; rw [pf_gd, es])
   have h5 := hc4 k hltk
   rw [es] at h5
   obtain ⟨q0, q1, q2, q3⟩ := h5
   have x0 := (hbz.out.cell (p := ⟨b4, _, none⟩) hl4).trans q0
   have x1 := (hbz.out.cell (p := ⟨b4, _, none⟩) hl4).trans q1
   have x2 := (hbz.out.cell (p := ⟨b4, _, none⟩) hl4).trans q2
   have x3 := (hbz.out.cell (p := ⟨b4, _, none⟩) hl4).trans q3
   have hk1 : (k : Int) < (n4 : Int) := by omega
   have hlz : b4 < wz.heap.size := Nat.lt_of_lt_of_le hl4 hbz.out.size
   have HAP : Hid (If.sdcells ((pf p).sd.take k) ++ [.int .i64 sn, .int .i64 sf] = If.sdcells ((pf p).sd.take (k + 1))) := Lib.hid (by
     rw [If.take_gd _ (by rw [HLS.out]; exact hltk), HES.out]
     exact If.sdcells_snoc _ ⟨sn, sf⟩)
   clear q0 q1 q2 q3 hc4 es
   go_upto_region 20 with fail
   refine wp_named (fun Y => ∃ g9, wz.heap.size = g9 ∧ Blk Y g9 [.int .i64 sn, .int .i64 sf, .int .i64 sk, .int .i64 sv] ∧ Kept [] wz Y) ⟨_, rfl, Blk.new _ _ _ _ (by simp), (Kept.refl _ _).alloc _⟩ ?_
   rintro Y ⟨g9, eg9, BY, hkY⟩
   rw [eg9]
   have ⟨LY, CY, FY⟩ := BY
   have HKY := Lib.hid hkY
   have HBQY := Lib.hid (hkY.blk (by simp) HBQZ.out)
   have ⟨LqY, CqY, FqY⟩ := HBQY.out
   have OWNY := Lib.hid (own_keptT (X := []) OWN.out hkY (by simp))
   have hYs : bs ≤ Y.heap.size := by have := hkY.size; omega
   clear eg9 x0 x1 x2 x3 hkY
   go_upto_region 21 with (at_builtin; refine wpList_append_rd _ rfl _ _ 56 rfl bs 127 k0 (.agg #[.int .i64 0, .int .i64 0]) 2 16 Tryz.underlying56 ki kz0 kz1 kz2 rfl (by decide) (.slice A k c) k _ rfl (own_keptT (X := []) OWNY.out ((Kept.refl _ _).alloc _) (by simp)) (some ⟨Y.heap.size, 0, none⟩) 1 1 [.int .i64 sn, .int .i64 sf] rfl (new2T _ _ _ _ _ rfl) (fun h => by cases h) (by intro u hu; simp at hu; rcases hu with rfl | rfl <;> rfl) (k + 1) rfl _ HAP.out (by unfold maxLen; omega) (by omega) (by simp; omega) ?_; intro A8 c8 w8 hown8 hk8 hat8; have HO8 := Lib.hid hown8; have HB8 := Lib.hid (hk8.blk (b := gq) (fun hm => by have := own_ge OWNY.out (by simpa using hm); omega) (((Kept.refl [] _).alloc _).blk (by simp) HBQY.out)); have HK8 := Lib.hid (((HKZ.out.next HKY.out (by simp)).alloc (.cells #[.int .i64 sn, .int .i64 sf] 127)).next hk8 (fun y hy => Or.inr (by have := own_ge OWNY.out (by simpa using hy); have := HBS.out; omega))); have ⟨L8, C8, F8⟩ := HB8.out; clear hown8 hk8 hat8)
   refine wp_named (fun Z => Blk Z gq [.slice N1 n1 d1, .slice N2 n2 d2, .int .i64 p.mn, .int .i64 p.F, .slice (some ⟨gf, 0, none⟩) i i, .slice A8 (k + 1) c8] ∧ Z.ownsRow bs 127 2 (.slice A8 (k + 1) c8) (k + 1) (If.sdcells ((pf p).sd.take (k + 1))) ∧ Kept [gq] wr Z) ⟨HB8.out.set 5 _, own_keptT (X := [gq]) HO8.out ((Kept.refl [gq] w8).set gq 5 _ (.inl (by simp))) (fun g hg => by have := own_ge HO8.out hg; simp; omega), HK8.out.set gq 5 _ (.inl (by simp))⟩ ?_
   rintro Z ⟨hbZ, hoZ, hkZ⟩
   have HBZ := Lib.hid hbZ
   have HOZ := Lib.hid hoZ
   have HKZ2 := Lib.hid hkZ
   clear hbZ hoZ hkZ LqY CqY FqY L8 C8 F8 LY CY FY
   go_wp2_with fail
   exact ⟨⟨k + 1, A8, c8, by omega, by go_num, HBZ, HOZ, HKZ2⟩, by simp [intOf]; omega⟩
 obtain ⟨b3, o3, Ai, ni, ci, rfl, hl3, hc3, hxp⟩ := Fls.rowT HI.out.fl HBR.out hlt
 have hl3r : b3 < wr.heap.size := by have := HBR.out.size; omega
 have hi1 : (i : Int) < (n3 : Int) := by omega
 have hni : ni ≤ 8192 := by have h1 := (HO.out.fl i (by have := HI.out.fl.1; omega)).1; have h2 := hxp.1; omega
 have HXP := Lib.hid hxp
 obtain ⟨l, el⟩ : ∃ l, If.gf (pf p).fl i = l := ⟨_, rfl⟩
 have HLN : Hid (l.length = ni) := Lib.hid (by rw [← el, pf_gf, List.length_map]; exact hxp.1)
 have HEL := Lib.hid el
 obtain ⟨MV, hMV⟩ : ∃ M, (List.replicate (ni * 2) (Value.int .i64 0)).toArray = M := ⟨_, rfl⟩
 have HMV := Lib.hid hMV
 have hmkV := fun w => run_make2 (P := Tryz.prog) Tryz.underlying123 hi hz0 hz1 hz2 rfl ni (by omega) (by omega) MV hMV w
 have ⟨L0R, C0R, F0R⟩ := HB0R.out
 clear hMV el hxp
 go_upto_region 10 with fail
 refine wp_named (fun X => ∃ g8, wr.heap.size = g8 ∧ If.Pw X g8 ni (If.upTo l 0) ∧ Kept [] wr X) ⟨_, rfl, ?_, (Kept.refl _ _).alloc _⟩ ?_
 · exact (If.Pw.made (heap_alloc_new _ _) HMV.out).same (fun a _ => by simp [If.upTo])
 rintro X ⟨g8, eg8, hpw, hkX⟩
 rw [eg8]
 have HKX := Lib.hid hkX
 have HPW := Lib.hid hpw
 have hg8b : base ≤ g8 := by omega
 have hg8f : gf ≠ g8 := by omega
 have hg8q : gq ≠ g8 := by omega
 have hg80 : b0 ≠ g8 := by omega
 have HEG8 := Lib.hid eg8
 clear hpw hkX eg8 hmkV C0R F0R L0R hc3
 go_wp2_with fail
 go_loopw [52] (fun s wz => ∃ j : Nat, j ≤ ni ∧ s = .int .i64 j ∧ Hid (If.Pw wz g8 ni (If.upTo l j)) ∧ Hid (Kept [g8] X wz)) (fun s _ => ni - (intOf s).toNat)
 case atStart => exact ⟨0, Nat.zero_le _, rfl, HPW, Lib.hid (Kept.refl _ _)⟩
 case round =>
 clear HPW
 rename World => wz
 obtain ⟨j, hj9, rfl, HPW, HKZ⟩ := hrel
 have HKRZ : Hid (Kept [g8] wr wz) := Lib.hid (((Kept.refl [g8] wr).next HKX.out (by simp)).next HKZ.out (fun y hy => by simp at hy; left; simp [hy]))
 by_cases hltj : j < ni
 case neg =>
   obtain rfl : j = ni := by omega
   clear hltj
   have FOZ := Lib.hid (FO.out.over HKRZ.out (fun y hy => by have := HEG8.out; simp at hy; omega))
   have ⟨LqZ, CqZ, FqZ⟩ := HKRZ.out.blk (b := gq) (by simpa using hg8q) HBQR.out
   have lfz := FOZ.out.glt
   have ffz := FOZ.out.gfr i
   have cfz := FOZ.out.nil i (Nat.le_refl _) hlt
   have HPL : Hid (If.Pw wz g8 j (If.gp (If.gf (pf p).fl i))) := Lib.hid (by
     rw [HEL.out]
     exact HPW.out.same (fun a ha => by have h9 := HLN.out; rw [← h9]; exact If.upTo_all l (by omega)))
   go_upto_region 16 with fail
   refine wp_named (fun Y => Kept [gf] V Y ∧ If.Fo (pf p).fl n3 (i + 1) base Y gf (updN rw i g8)) ⟨?_, ?_⟩ ?_
   · refine (HKR.out.next HKRZ.out (fun y hy => ?_)).set gf i _ (.inl (by simp))
     right; have := HEG8.out; have := HKR.out.size; simp at hy; omega
   · exact FOZ.out.snoc hlt hg8b (by rw [HEL.out]; exact HLN.out) HPL.out
   rintro Y ⟨hkY, hfY⟩
   have HKY := Lib.hid hkY
   have HFY := Lib.hid hfY
   clear hkY hfY LqZ CqZ FqZ lfz ffz cfz
   go_wp2_with fail
   exact ⟨⟨i + 1, updN rw i g8, by omega, by go_num, HKY, HFY⟩, by simp [intOf]; omega⟩
 obtain ⟨b5, o5, e5, hl5, hc5⟩ := HXP.out.2 (by omega)
 subst e5
 obtain ⟨qi, qo, qk, qb, qc, eq⟩ : ∃ qi qo qk qb qc, gx (gl p.fl i) j = ⟨qi, qo, qk, qb, qc⟩ := ⟨_, _, _, _, _, rfl⟩
 have HEQ : Hid (If.gp l j = ⟨qi, qo⟩) := Lib.hid (by rw [← HEL.out, pf_gf, pf_gp, eq])
 have hbz : Below w.heap.size w wz := Kept.below (X := [g8]) HBR.out HBR.out.size (fun y hy => by have := HEG8.out; have := HBR.out.size; simp at hy; omega) HKRZ.out
 have h5 := hc5 j hltj
 rw [eq] at h5
 obtain ⟨q0, q1, q2, q3, q4⟩ := h5
 have x0 := (hbz.cell (p := ⟨b5, _, none⟩) hl5).trans q0
 have x1 := (hbz.cell (p := ⟨b5, _, none⟩) hl5).trans q1
 have x2 := (hbz.cell (p := ⟨b5, _, none⟩) hl5).trans q2
 have x3 := (hbz.cell (p := ⟨b5, _, none⟩) hl5).trans q3
 have x4 := (hbz.cell (p := ⟨b5, _, none⟩) hl5).trans q4
 have hj1 : (j : Int) < (ni : Int) := by omega
 have hlz : b5 < wz.heap.size := Nat.lt_of_lt_of_le hl5 hbz.size
 clear q0 q1 q2 q3 q4 hc5 eq hbz
 go_upto_region 13 with fail
 refine wp_named (fun Y => ∃ g9, wz.heap.size = g9 ∧ Blk Y g9 [.int .i64 qi, .int .i64 qo, .int .i64 qk, .int .i64 qb, .int .i64 qc] ∧ Kept [] wz Y) ⟨_, rfl, Blk.new _ _ _ _ (by simp), (Kept.refl _ _).alloc _⟩ ?_
 rintro Y ⟨g9, eg9, BY, hkY⟩
 rw [eg9]
 have ⟨LY, CY, FY⟩ := BY
 have PY := HPW.out.kept hkY (by simp)
 have lpy := PY.1
 have fpy := PY.2.2
 obtain ⟨p0, p1⟩ := PY.2.1 j hltj
 have hput := PY.put hltj qi qo rfl
 have HPUT := Lib.hid hput
 have HKY := Lib.hid hkY
 clear hput hkY PY eg9 x0 x1 x2 x3 x4
 go_upto_region 14 with fail
 refine wp_named (fun Z => If.Pw Z g8 ni (If.upTo l (j + 1)) ∧ Kept [g8] X Z) ⟨HPUT.out.same (fun a _ => by rw [← HEQ.out]; exact If.upTo_succ l j a), ((HKZ.out.next HKY.out (by simp)).set g8 _ _ (.inl (by simp))).set g8 _ _ (.inl (by simp))⟩ ?_
 rintro Z ⟨hpZ, hkZ⟩
 have HPZ := Lib.hid hpZ
 have HKZ2 := Lib.hid hkZ
 clear hpZ hkZ LY CY FY lpy fpy p0 p1
 go_wp2_with fail
 exact ⟨⟨j + 1, by omega, by go_num, HPZ, HKZ2⟩, by simp [intOf]; omega⟩
end Go.Proofs.YtincpmdldpakkaaGreatDoor
namespace Go.Df
open Go.RowKit
namespace Iv
open Sp
theorem sum_const {α : Type} (c : Nat) : ∀ l : List α, (l.map fun _ => c).sum = l.length * c
 | [] => by simp
 | _ :: l => by
  have h := sum_const c l
  simp only [List.map_cons, List.sum_cons, h, List.length_cons, Nat.succ_mul]
  omega
theorem flat_len {α β : Type} (f : α → List β) (c : Nat) : ∀ l : List α, (∀ x ∈ l, (f x).length = c) → (l.flatMap f).length = l.length * c
 | [], _ => by simp
 | x :: l, h => by
  have h1 := flat_len f c l (fun y hy => h y (List.mem_cons_of_mem _ hy))
  have h2 := h x (by simp)
  simp only [List.flatMap_cons, List.length_append, h1, h2, List.length_cons, Nat.succ_mul]
  omega
theorem trip_len (N F : Nat) : (trip N F).length = N * (F * F) := by
 unfold trip
 rw [flat_len _ (F * F) _ (fun x _ => by rw [flat_len _ F _ (fun y _ => by simp)]; simp)]
 simp
theorem duo_len (N F : Nat) : (duo N F).length = N * F := by
 unfold duo
 rw [flat_len _ F _ (fun x _ => by simp)]
 simp
theorem mu_small {p : Vb} (h1 : p.ns.length ≤ 36) (h2 : p.F ≤ 6) : mu0 p ≤ 1000000 := by
 unfold mu0 muT muV
 rw [sum_const, sum_const, trip_len, duo_len]
 have hF : p.F.toNat ≤ 6 := by omega
 have a1 : stp top ≤ 10 := by decide
 have a2 : stpV topV ≤ 10 := by decide
 have b1 : p.F.toNat * p.F.toNat ≤ 6 * 6 := Nat.mul_le_mul hF hF
 have b2 : p.ns.length * (p.F.toNat * p.F.toNat) ≤ 36 * 36 := Nat.mul_le_mul h1 b1
 have b3 : p.ns.length * p.F.toNat ≤ 36 * 6 := Nat.mul_le_mul h1 hF
 have c1 := Nat.mul_le_mul b2 a1
 have c2 := Nat.mul_le_mul b3 a2
 omega
end Iv
end Go.Df
namespace Go.Proofs.YtincpmdldpakkaaGreatDoor
open Go.RowKit Go.Df Go.Df.Iv Go.Df.Sp
end Go.Proofs.YtincpmdldpakkaaGreatDoor
namespace Go.Df
open Go.RowKit
namespace Iv
open Sp
def v1 : Vb := ⟨[⟨0, 1, -1⟩, ⟨0, 2, 0⟩, ⟨0, 2, 1⟩, ⟨0, 3, -1⟩, ⟨0, 4, -1⟩], [⟨0, 1, 1, -1⟩, ⟨1, 2, 1, -1⟩, ⟨2, 3, 1, -1⟩], 0, 2, [[⟨0, 0, 2, 0, 0⟩, ⟨0, 1, 1, 0, 5⟩], [⟨0, 0, 2, 0, 0⟩, ⟨1, 1, 2, 2, 0⟩], [⟨0, 0, 2, 0, 0⟩]], []⟩
theorem v1_err : vErr v1 = 0 := by decide
def k5 : D := ⟨⟨1, 0, 5⟩, by decide, by decide +kernel, by decide +kernel⟩
def k7 : D := ⟨⟨1, 0, 7⟩, by decide, by decide +kernel, by decide +kernel⟩
def s2 : D := ⟨⟨2, 2, 0⟩, by decide, by decide +kernel, by decide +kernel⟩
theorem v1_fit : VFit v1 := by
 refine ⟨fun k q hq => ?_, fun s hs => by cases hs⟩
 match k with
 | 0 =>
  have hq : q ∈ [(⟨0, 0, 2, 0, 0⟩ : Xp), ⟨0, 1, 1, 0, 5⟩] := hq
  simp at hq
  rcases hq with rfl | rfl <;> exact ⟨by decide +kernel, by decide +kernel⟩
 | 1 =>
  have hq : q ∈ [(⟨0, 0, 2, 0, 0⟩ : Xp), ⟨1, 1, 2, 2, 0⟩] := hq
  simp at hq
  rcases hq with rfl | rfl <;> exact ⟨by decide +kernel, by decide +kernel⟩
 | 2 =>
  have hq : q ∈ [(⟨0, 0, 2, 0, 0⟩ : Xp)] := hq
  simp at hq
  subst hq
  exact ⟨by decide +kernel, by decide +kernel⟩
 | _ + 3 => cases hq
theorem xd_zero : xd ⟨0, 0, 2, 0, 0⟩ = shift := Subtype.ext (xd_is (by decide) (by decide +kernel) (by decide +kernel))
theorem xd_five : xd ⟨0, 1, 1, 0, 5⟩ = k5 := Subtype.ext (xd_is (by decide) (by decide +kernel) (by decide +kernel))
theorem xd_two : xd ⟨1, 1, 2, 2, 0⟩ = s2 := Subtype.ext (xd_is (by decide) (by decide +kernel) (by decide +kernel))
def v1T (n a d : Nat) : D := if a ≠ 0 then top else match n, d with
 | 0, 0 => shift
 | 1, 0 => shift
 | 2, 0 => shift
 | 3, 0 => shift
 | 1, 1 => k5
 | 2, 1 => k7
 | _, _ => top
theorem v1T_no {n a d : Nat} (h : a ≠ 0) : v1T n a d = top := if_pos h
theorem c_shift : comp shift shift = shift := by decide +kernel
theorem c_five : comp shift k5 = k5 := by decide +kernel
theorem c_seven : comp k5 s2 = k7 := by decide +kernel
theorem v1_len : v1.es.length = 3 := rfl
theorem v1_clo : Clo v1 v1T := by
 have h0 : ∀ (T : D), le T (comp top (xd ⟨0, 0, 2, 0, 0⟩)) := fun T => by rw [top_comp]; exact le_top _
 refine ⟨le_refl _, (fun s hs => by cases hs), fun k hk _ q hq a => ?_, fun k hk h2 => ?_, fun c hc h2 => ?_⟩
 ·rw [v1_len] at hk
  by_cases ha : a = 0
  ·subst ha
   match k, hk with
   | 0, _ =>
    have hq : q ∈ [(⟨0, 0, 2, 0, 0⟩ : Xp), ⟨0, 1, 1, 0, 5⟩] := hq
    simp at hq
    rcases hq with rfl | rfl
    ·rw [xd_zero]; show le shift (comp shift shift); rw [c_shift]; exact le_refl _
    ·rw [xd_five]; show le k5 (comp shift k5); rw [c_five]; exact le_refl _
   | 1, _ =>
    have hq : q ∈ [(⟨0, 0, 2, 0, 0⟩ : Xp), ⟨1, 1, 2, 2, 0⟩] := hq
    simp at hq
    rcases hq with rfl | rfl
    ·rw [xd_zero]; show le shift (comp shift shift); rw [c_shift]; exact le_refl _
    ·rw [xd_two]; show le k7 (comp k5 s2); rw [c_seven]; exact le_refl _
   | 2, _ =>
    have hq : q ∈ [(⟨0, 0, 2, 0, 0⟩ : Xp)] := hq
    simp at hq
    subst hq
    rw [xd_zero]; show le shift (comp shift shift); rw [c_shift]; exact le_refl _
  ·rw [v1T_no ha (n := (ge v1.es k).a.toNat), top_comp]
   exact le_top _
 ·rw [v1_len] at hk
  match k, hk with
  | 0, _ => exact absurd h2 (by decide)
  | 1, _ => exact absurd h2 (by decide)
  | 2, _ => exact absurd h2 (by decide)
 ·rw [v1_len] at hc
  match c, hc with
  | 0, _ => exact absurd h2 (by decide)
  | 1, _ => exact absurd h2 (by decide)
  | 2, _ => exact absurd h2 (by decide)
theorem v1_snd : Snd v1 v1T := fun U hU => by
 have h00 : le (U 0 0 0) shift := hU.main
 have f : ∀ k, k < 3 → (ge v1.es k).k = 1 → ∀ q ∈ gl v1.fl k, le (U (ge v1.es k).b.toNat 0 q.o.toNat) (comp (U (ge v1.es k).a.toNat 0 q.i.toNat) (xd q)) := fun k hk h q hq => hU.flow k hk (.inl h) q hq 0
 have h10 : le (U 1 0 0) shift := by
  have h1 := f 0 (by omega) rfl ⟨0, 0, 2, 0, 0⟩ (by show _ ∈ [(⟨0, 0, 2, 0, 0⟩ : Xp), ⟨0, 1, 1, 0, 5⟩]; simp)
  rw [xd_zero] at h1
  exact le_trans h1 (by have h2 := comp_mono h00 (le_refl shift); rw [c_shift] at h2; exact h2)
 have h11 : le (U 1 0 1) k5 := by
  have h1 := f 0 (by omega) rfl ⟨0, 1, 1, 0, 5⟩ (by show _ ∈ [(⟨0, 0, 2, 0, 0⟩ : Xp), ⟨0, 1, 1, 0, 5⟩]; simp)
  rw [xd_five] at h1
  exact le_trans h1 (by have h2 := comp_mono h00 (le_refl k5); rw [c_five] at h2; exact h2)
 have h20 : le (U 2 0 0) shift := by
  have h1 := f 1 (by omega) rfl ⟨0, 0, 2, 0, 0⟩ (by show _ ∈ [(⟨0, 0, 2, 0, 0⟩ : Xp), ⟨1, 1, 2, 2, 0⟩]; simp)
  rw [xd_zero] at h1
  exact le_trans h1 (by have h2 := comp_mono h10 (le_refl shift); rw [c_shift] at h2; exact h2)
 have h21 : le (U 2 0 1) k7 := by
  have h1 := f 1 (by omega) rfl ⟨1, 1, 2, 2, 0⟩ (by show _ ∈ [(⟨0, 0, 2, 0, 0⟩ : Xp), ⟨1, 1, 2, 2, 0⟩]; simp)
  rw [xd_two] at h1
  exact le_trans h1 (by have h2 := comp_mono h11 (le_refl s2); rw [c_seven] at h2; exact h2)
 have h30 : le (U 3 0 0) shift := by
  have h1 := f 2 (by omega) rfl ⟨0, 0, 2, 0, 0⟩ (by show _ ∈ [(⟨0, 0, 2, 0, 0⟩ : Xp)]; simp)
  rw [xd_zero] at h1
  exact le_trans h1 (by have h2 := comp_mono h20 (le_refl shift); rw [c_shift] at h2; exact h2)
 intro n a d
 unfold v1T
 split
 ·exact le_top _
 ·rename_i ha
  obtain rfl : a = 0 := Classical.not_not.mp ha
  split <;> first | exact h00 | exact h10 | exact h20 | exact h30 | exact h11 | exact h21 | exact le_top _
def v1V (n a : Nat) : U := if n = 0 ∧ a = 0 then botV else topV
theorem v1_vclo : VClo v1 v1T v1V := by
 refine ⟨leV_refl _, fun k hk h2 => ?_⟩
 rw [v1_len] at hk
 match k, hk with
 | 0, _ => exact absurd h2 (by decide)
 | 1, _ => exact absurd h2 (by decide)
 | 2, _ => exact absurd h2 (by decide)
theorem v1_vsnd : VSnd v1 v1T v1V := fun Y hY n a => by
 unfold v1V
 split
 ·rename_i h; obtain ⟨rfl, rfl⟩ := h; exact hY.main
 ·exact leV_top _
theorem v1_sol {S : Nat → Nat → U} (h : IsSol v1 S) {n d : Nat} (hn : n < 5) (hd : d < 2) : S n d = solV v1 v1T v1V n d := by
 refine h.eq ⟨v1T, v1V, v1_clo, v1_snd, v1_vclo, v1_vsnd, fun n d _ _ => solV_glb (fun a ha => v1T_no (by have : v1.F.toNat = 2 := rfl; omega))⟩ hn hd
theorem v1_21 : (solV v1 v1T v1V 2 1).1 = ⟨1, 7⟩ := by decide +kernel
theorem v1_30 : (solV v1 v1T v1V 3 0).1 = ⟨2, 0⟩ := by decide +kernel
theorem v1_31 : (solV v1 v1T v1V 3 1).1 = ⟨0, 0⟩ := by decide +kernel
theorem v1_40 : (solV v1 v1T v1V 4 0).1 = ⟨0, 0⟩ := by decide +kernel
end Iv
end Go.Df
