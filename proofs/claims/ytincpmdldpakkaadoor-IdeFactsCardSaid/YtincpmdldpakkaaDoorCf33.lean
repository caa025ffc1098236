/- Texts: Td Aw Az Ai. -/
import Derived.Test.YtincpmdldpakkaaDoorCf32
import Derived.Test.YtincpmdldpakkaaDoorCf15
import Derived.Test.YtincpmdldpakkaaDoorCf25
import Derived.Test.YtincpmdldpakkaaDoorCf31
import Derived.Test.YtincpmdldpakkaaDoorCf17
namespace Go.Df
open Go.RowKit
theorem If.Prs.take_all {w : World} {A : Option Addr} {n m : Nat} {l : List If.Pr} (h : If.Prs w A n (l.take m)) (hm : l.length = m) : If.Prs w A n l := by
  rwa [← hm, List.take_length] at h
end Go.Df
namespace Go.Proofs.YtincpmdldpakkaaDoor
open Go.RowKit Go.Df Go.Df.Iv Go.Df.Sp
attribute [local go_sem ↓] Go.wp_at_zero Go.wp_at_succ
set_option maxRecDepth 100000 in
set_option maxHeartbeats 4000000 in
theorem rfacts33_err (A1 A2 A3 A4 : Option Addr) (n1 c1 n2 c2 n3 c3 n4 c4 : Nat) (mn F pe : Int) (w : World) (h0 : pe ≠ 0)
    (hchk : ∀ w1, Below w.heap.size w w1 → Calls Tryd.prog 8 #[.agg #[.slice A1 n1 c1, .slice A2 n2 c2, .int .i64 mn, .int .i64 F, .slice A3 n3 c3, .slice A4 n4 c4]] w1 fun e w' => e = .returned (.int .i64 pe) ∧ Below w1.heap.size w1 w') :
    Calls Tryd.prog 18 #[.agg #[.slice A1 n1 c1, .slice A2 n2 c2, .int .i64 mn, .int .i64 F, .slice A3 n3 c3, .slice A4 n4 c4]] w fun e w' => e = .returned (.tuple #[.agg #[.slice none 0 0, .slice none 0 0, .int .i64 0, .int .i64 0, .slice none 0 0, .slice none 0 0], .int .i64 pe]) ∧ Below w.heap.size w w' := by
  have HCHK := Lib.hid hchk
  have h0' : (pe != 0) = true := by simpa using h0
  clear hchk h0
  go_enter Tryd.func18, Tryd.ntmps18
  go_upto_region 1 with fail
  refine wp_named (fun W => ∃ b0 b1, w.heap.size = b0 ∧ w.heap.size + 1 = b1 ∧ Blk W b0 [.slice A1 n1 c1, .slice A2 n2 c2, .int .i64 mn, .int .i64 F, .slice A3 n3 c3, .slice A4 n4 c4] ∧ Blk W b1 [.slice none 0 0, .slice none 0 0, .int .i64 0, .int .i64 0, .slice none 0 0, .slice none 0 0] ∧ Below w.heap.size w W) ⟨_, _, rfl, rfl, ?_, ?_, ?_⟩ ?_
  · exact (Blk.new _ _ _ _ (by first | rfl | simp)).alloc _
  · exact Blk.new _ _ _ _ (by first | rfl | simp)
  · go_grown
  rintro W ⟨b0, b1, e0, e1, B0, B1, hB⟩
  rw [e1, e0]
  have G0 : w.heap.size ≤ b0 := by omega
  have n01 : b0 ≠ b1 := by omega
  have G1 : w.heap.size ≤ b1 := by omega
  have n10 : b1 ≠ b0 := by omega
  clear e0 e1
  have ⟨L0, C0, F0⟩ := B0
  have ⟨L1, C1, F1⟩ := B1
  go_upto_region 2 with (go_at_call 8; refine (HCHK.out _ hB).mono ?_; rintro e w1 ⟨rfl, hb1⟩)
  have hk1 : Kept [] W w1 := (Kept.refl _ _).call hb1
  have B11 := hk1.blk (by simp) B1
  have ⟨L11, C11, F11⟩ := B11
  have hB1 := hk1.below hB hB.size (by simp)
  clear C1 F1
  go_wp2_with fail
  refine retNamed9 (fun X => Blk X b1 [.slice none 0 0, .slice none 0 0, .int .i64 0, .int .i64 0, .slice none 0 0, .slice none 0 0] ∧ Kept [b1] w1 X) ⟨(((((B11.set 0 _).set 1 _).set 2 _).set 3 _).set 4 _).set 5 _, ((((((Kept.refl [b1] w1).set b1 0 _ (.inl (by simp))).set b1 1 _ (.inl (by simp))).set b1 2 _ (.inl (by simp))).set b1 3 _ (.inl (by simp))).set b1 4 _ (.inl (by simp))).set b1 5 _ (.inl (by simp))⟩ ?_
  rintro X ⟨BX, hkX⟩
  have ⟨LX, CX, FX⟩ := BX
  refine bodyPost_ret (by simp [results, Tryd.results18, go_sem, CX]; try rfl) rfl ?_
  exact ⟨rfl, hkX.below hB1 hB1.size (by simpa using G1)⟩
set_option maxRecDepth 100000 in
set_option maxHeartbeats 20000000 in
theorem rfacts33_ok {p : Vb} (A1 A2 A3 A4 : Option Addr) (n1 c1 n2 c2 n3 c3 n4 c4 : Nat) (w : World) (h : Lies p A1 A2 A3 A4 n1 n2 n3 n4 w) (ho : VOk p)
    (hchk : ∀ w1, Below w.heap.size w w1 → Calls Tryd.prog 8 #[.agg #[.slice A1 n1 c1, .slice A2 n2 c2, .int .i64 p.mn, .int .i64 p.F, .slice A3 n3 c3, .slice A4 n4 c4]] w1 fun e w' => e = .returned (.int .i64 0) ∧ Below w1.heap.size w1 w') :
    Calls Tryd.prog 18 #[.agg #[.slice A1 n1 c1, .slice A2 n2 c2, .int .i64 p.mn, .int .i64 p.F, .slice A3 n3 c3, .slice A4 n4 c4]] w (GetF p n1 n2 n3 n4 w) := by
  obtain ⟨i0, hi, hz0, hz1, hz2⟩ := info_parts pair_info9
  obtain ⟨j0, ji, jz0, jz1, jz2⟩ := info_parts flow_info9
  obtain ⟨k0, ki, kz0, kz1, kz2⟩ := info_parts seed_info9
  have hn4 := h.n4
  have hN1 : n1 ≤ 8192 := by have := (If.sup_parts ho.sup).1; have := h.nd.1; omega
  have hN3 : n3 ≤ 32768 := by have := ho.len; have := h.fl.1; have := h.ed.1; have := (If.sup_parts ho.sup).2.1; omega
  have HI := Lib.hid h
  have HO := Lib.hid ho
  have HCHK := Lib.hid hchk
  clear h ho hchk
  go_enter Tryd.func18, Tryd.ntmps18
  go_upto_region 1 with fail
  refine wp_named (fun W => ∃ b0 b1, w.heap.size = b0 ∧ w.heap.size + 1 = b1 ∧ Blk W b0 [.slice A1 n1 c1, .slice A2 n2 c2, .int .i64 p.mn, .int .i64 p.F, .slice A3 n3 c3, .slice A4 n4 c4] ∧ Blk W b1 [.slice none 0 0, .slice none 0 0, .int .i64 0, .int .i64 0, .slice none 0 0, .slice none 0 0] ∧ Below w.heap.size w W) ⟨_, _, rfl, rfl, ?_, ?_, ?_⟩ ?_
  · exact (Blk.new _ _ _ _ (by first | rfl | simp)).alloc _
  · exact Blk.new _ _ _ _ (by first | rfl | simp)
  · go_grown
  rintro W ⟨b0, b1, e0, e1, B0, B1, hB⟩
  rw [e1, e0]
  have G0 : w.heap.size ≤ b0 := by omega
  have n01 : b0 ≠ b1 := by omega
  have G1 : w.heap.size ≤ b1 := by omega
  have n10 : b1 ≠ b0 := by omega
  clear e0 e1
  have ⟨L0, C0, F0⟩ := B0
  have ⟨L1, C1, F1⟩ := B1
  go_upto_region 2 with (go_at_call 8; refine (HCHK.out _ hB).mono ?_; rintro e w1 ⟨rfl, hb1⟩)
  have hkw1 : Kept [] w w1 := ((Kept.refl _ _).call hB).call hb1
  have HB0 := Lib.hid (B0.later hb1)
  have HB1 := Lib.hid (B1.later hb1)
  have hb1w : w.heap.size ≤ b1 := by simpa using G1
  have ⟨L01, C01, F01⟩ := HB0.out
  clear C0 F0 C1 F1
  go_upto_region 5 with fail
  refine wp_named (fun V => ∃ gq, w1.heap.size = gq ∧ Blk V gq [.slice A1 n1 c1, .slice A2 n2 c2, .int .i64 p.mn, .int .i64 p.F, .slice none 0 0, .slice none 0 0] ∧ Kept [] w1 V) ⟨_, rfl, Blk.new _ _ _ _ (by simp), (Kept.refl _ _).alloc _⟩ ?_
  rintro V ⟨gq, eq, hbq, hkV⟩
  rw [eq]
  have HKV := Lib.hid hkV
  have HBQV := Lib.hid hbq
  have HEQ := Lib.hid eq
  have hb0q : b0 ≠ gq := by have := HB0.out.1; omega
  have hb1q : b1 ≠ gq := by have := HB1.out.1; omega
  have HB0V := Lib.hid (hkV.blk (by simp) HB0.out)
  have HB1V := Lib.hid (hkV.blk (by simp) HB1.out)
  have HBW : Hid (Below w.heap.size w V) := Lib.hid (keptTrans hkw1 hkV).toBelow
  obtain ⟨base, hbase⟩ : ∃ base, V.heap.size = base := ⟨_, rfl⟩
  have hqb : gq < base := by have := hbq.1; omega
  have h0b : b0 < base := by have := HB0V.out.1; omega
  have h1b : b1 < base := by have := HB1V.out.1; omega
  have hwb : w.heap.size ≤ base := by have := HBW.out.size; omega
  have hwq : w.heap.size ≤ gq := by have := hkw1.size; omega
  have HBASE := Lib.hid hbase
  clear hbq hkV eq hbase C01 F01 L01
  go_wp2_with fail
  go_loopw [6] (fun s wr => ∃ (i : Nat) (R : Nat → Option Addr × Nat × Nat) (A : Option Addr) (c : Nat), i ≤ n3 ∧ s = .int .i64 i ∧ Hid (Blk wr gq [.slice A1 n1 c1, .slice A2 n2 c2, .int .i64 p.mn, .int .i64 p.F, .slice A i c, .slice none 0 0]) ∧ Hid (wr.ownsRow base 46 1 (.slice A i c) i (If.rowsP R i)) ∧ Hid (If.RwP base 48 R (If.gf (pf p).fl) i wr) ∧ Hid (Kept [gq] V wr)) (fun s _ => n3 - (intOf s).toNat)
  case atStart => exact ⟨0, fun _ => (none, 0, 0), none, 0, Nat.zero_le _, rfl, HBQV, Lib.hid (World.ownsRow_nil _ _ _ _), (fun x hx => absurd hx (Nat.not_lt_zero x)), Lib.hid (Kept.refl _ _)⟩
  case round =>
  obtain ⟨i, R, A, c, hi9, rfl, HBQR, OWR, HRP, HKR⟩ := hrel
  have hzr : base ≤ wr.heap.size := by have := HKR.out.size; have := HBASE.out; omega
  have HBR : Hid (Below w.heap.size w wr) := Lib.hid (Kept.below (X := [gq]) HBW.out HBW.out.size (fun y hy => by simp at hy; omega) HKR.out)
  have HB0R := Lib.hid (HKR.out.blk (b := b0) (by simpa using hb0q) HB0V.out)
  have ⟨L0R, C0R, F0R⟩ := HB0R.out
  by_cases hlt : i < n3
  case neg =>
    obtain rfl : i = n3 := by omega
    clear hlt
    have HB1R := Lib.hid (HKR.out.blk (b := b1) (by simpa using hb1q) HB1V.out)
    have HNDR := Lib.hid (HI.out.nd.later HBR.out)
    have HEDR := Lib.hid (HI.out.ed.later HBR.out)
    have HLF : Hid ((pf p).fl.length = i) := Lib.hid (by have := HI.out.fl.1; simpa [pf] using this)
    have HLS : Hid ((pf p).sd.length = n4) := Lib.hid (by have := HI.out.sd.1; simpa [pf] using this)
    have HFW := Lib.hid (HRP.out.flw OWR.out HLF.out)
    obtain ⟨bs, hbs⟩ : ∃ bs, wr.heap.size = bs := ⟨_, rfl⟩
    have HBS := Lib.hid hbs
    have hqs : gq < bs := by omega
    have h1s : b1 < bs := by omega
    have h0s : b0 < bs := by omega
    clear hbs
    go_wp2_with fail
    clear L0R C0R F0R
    go_loopw [9] (fun s wz => ∃ (k : Nat) (A' : Option Addr) (c' : Nat), k ≤ n4 ∧ s = .int .i64 k ∧ Hid (Blk wz gq [.slice A1 n1 c1, .slice A2 n2 c2, .int .i64 p.mn, .int .i64 p.F, .slice A i c, .slice A' k c']) ∧ Hid (wz.ownsRow bs 54 2 (.slice A' k c') k (If.sdcells ((pf p).sd.take k))) ∧ Hid (Kept [gq] wr wz)) (fun s _ => n4 - (intOf s).toNat)
    case atStart => exact ⟨0, none, 0, Nat.zero_le _, rfl, HBQR, Lib.hid (World.ownsRow_nil _ _ _ _), Lib.hid (Kept.refl _ _)⟩
    case round =>
    rename World => wz
    obtain ⟨k, A', c', hk9, rfl, HBQZ, OWN, HKZ⟩ := hrel
    have HB0Z := Lib.hid (HKZ.out.blk (b := b0) (by simpa using hb0q) HB0R.out)
    have ⟨L0Z, C0Z, F0Z⟩ := HB0Z.out
    have hwz : bs ≤ wz.heap.size := by have := HKZ.out.size; have := HBS.out; omega
    have hbz : Hid (Below w.heap.size w wz) := Lib.hid (Kept.below (X := [gq]) HBR.out HBR.out.size (fun y hy => by simp at hy; omega) HKZ.out)
    have ⟨LqZ, CqZ, FqZ⟩ := HBQZ.out
    by_cases hltk : k < n4
    case neg =>
      obtain rfl : k = n4 := by omega
      have ⟨L1Z, C1Z, F1Z⟩ := HKZ.out.blk (b := b1) (by simpa using hb1q) HB1R.out
      have B1Z := HKZ.out.blk (b := b1) (by simpa using hb1q) HB1R.out
      go_wp2_with fail
      refine retNamed9 (fun X => Blk X b1 [.slice A1 n1 c1, .slice A2 n2 c2, .int .i64 p.mn, .int .i64 p.F, .slice A i c, .slice A' k c'] ∧ Kept [b1] wz X) ⟨(((((B1Z.set 0 _).set 1 _).set 2 _).set 3 _).set 4 _).set 5 _, ((((((Kept.refl [b1] wz).set b1 0 _ (.inl (by simp))).set b1 1 _ (.inl (by simp))).set b1 2 _ (.inl (by simp))).set b1 3 _ (.inl (by simp))).set b1 4 _ (.inl (by simp))).set b1 5 _ (.inl (by simp))⟩ ?_
      rintro X ⟨BX, hkX⟩
      have ⟨LX, CX, FX⟩ := BX
      have hbx : Below w.heap.size w X := Kept.below (X := [b1]) hbz.out hbz.out.size (fun y hy => by simp at hy; omega) hkX
      have hk2 : Kept [gq, b1] wr X := ((Kept.refl [gq, b1] wr).next HKZ.out (fun y hy => by simp at hy; left; simp [hy])).next hkX (fun y hy => by simp at hy; left; simp [hy])
      refine bodyPost_ret (by simp [results, Tryd.results18, go_sem, CX]; try rfl) rfl ?_
      refine ⟨A1, c1, A2, c2, A, c, A', c', rfl, HI.out.nd.later hbx, HI.out.ed.later hbx, ?_, ?_, hbx⟩
      · refine ((HRP.out.kept hk2 (fun b ht hb => by simp; omega)).flw (own_keptT OWR.out hk2 (fun g hg => by have := own_ge OWR.out hg; simp; omega)) HLF.out).1
      · refine (If.Sds.own (own_keptT OWN.out hkX (fun g hg => by have := own_ge OWN.out hg; simp; omega)) ?_).1.take_all ?_
        · rw [List.length_take, HLS.out]; omega
        · rw [← HLS.out]
    obtain ⟨b4, o4, e4, hl4, hc4⟩ := HI.out.sd.2 (by omega)
    subst e4
    obtain ⟨sn, sf, sk, sv, es⟩ : ∃ sn sf sk sv, gs p.sd k = ⟨sn, sf, sk, sv⟩ := ⟨_, _, _, _, rfl⟩
    have HES : Hid (If.gd (pf p).sd k = ⟨sn, sf⟩) := Lib.hid (by show If.gd (p.sd.map fun s => ⟨s.n, s.f⟩) k = _; rw [pf_gd, es])
    have h5 := hc4 k hltk
    rw [es] at h5
    obtain ⟨q0, q1, q2, q3⟩ := h5
    have x0 := (hbz.out.cell (p := ⟨b4, _, none⟩) hl4).trans q0
    have x1 := (hbz.out.cell (p := ⟨b4, _, none⟩) hl4).trans q1
    have hk1 : (k : Int) < (n4 : Int) := by omega
    have hlz : b4 < wz.heap.size := Nat.lt_of_lt_of_le hl4 hbz.out.size
    have HAP : Hid (If.sdcells ((pf p).sd.take k) ++ [.int .i64 sn, .int .i64 sf] = If.sdcells ((pf p).sd.take (k + 1))) := Lib.hid (by
      rw [If.take_gd _ (by rw [HLS.out]; exact hltk), HES.out]
      exact If.sdcells_snoc _ ⟨sn, sf⟩)
    have xa : b0 ∉ (Value.slice A' k c').ownBlock.toList := fun hm => by have := own_ge OWN.out (by simpa using hm); omega
    have xb : gq ∉ (Value.slice A' k c').ownBlock.toList := fun hm => by have := own_ge OWN.out (by simpa using hm); omega
    have xc : b4 ∉ (Value.slice A' k c').ownBlock.toList := fun hm => by have := own_ge OWN.out (by simpa using hm); omega
    clear q0 q1 q2 q3 hc4 es
    go_upto_region 17 with fail
    refine wp_region_E 18 (fun w' => SXt (Value.slice A' k c').ownBlock.toList b0 gq b4 wz w') (by kernel_rfl) (by (first | (with_reducible assumption) | exact SXt.of (keptNil (Kept.refl _ _).drew) L0Z LqZ hlz xa xb xc | exact SXt.of (hHeld.1.alloc _) L0Z LqZ hlz xa xb xc | exact SXt.of HKA.out L0Z LqZ hlz xa xb xc)) (fun hHeld => ?_)
    refine WE_tk 0 ?_
    refine WE_tk 1 ?_
    refine WE_tk 2 ?_
    refine WE_tk 3 ?_
    refine WE_tk 4 ?_
    refine WE_tk 5 ?_
    refine WE_tk 6 ?_
    refine WE_tk 7 ?_
    refine WE_tk 8 ?_
    refine WE_tk 9 ?_
    refine WE_tk 10 ?_
    refine WE_tk 11 ?_
    refine WE_tk 12 ?_
    refine WE_tk 13 ?_
    refine WE_tk 14 ?_
    refine WE_step 15 rfl (by kernel_rfl) (fun K hK => ?_)
    go_simp
    refine hK.out _ _ ?_ (fun hHeld => ?_)
    · (first | (with_reducible assumption) | exact SXt.of (keptNil (Kept.refl _ _).drew) L0Z LqZ hlz xa xb xc | exact SXt.of (hHeld.1.alloc _) L0Z LqZ hlz xa xb xc | exact SXt.of HKA.out L0Z LqZ hlz xa xb xc)
    clear hK K
    try simp only [Act.put, List.setIfInBounds_toArray, List.set_cons_zero, List.set_cons_succ]
    refine WE_step 16 rfl (by kernel_rfl) (fun K hK => ?_)
    (refine step_append_rd _ rfl _ _ 41 rfl bs 54 k0 (.agg #[.int .i64 0, .int .i64 0]) 2 16 Tryd.underlying41 ki kz0 kz1 kz2 rfl (by decide) (.slice A' k c') k _ rfl (own_keptT (X := []) OWN.out (((Kept.refl [] wz).drew).alloc _) (by simp)) (some ⟨wz.heap.size, 0, none⟩) 1 1 [.int .i64 sn, .int .i64 sf] rfl (new2T _ _ _ _ _ rfl) (fun h => by cases h) (by intro u hu; simp at hu; rcases hu with rfl | rfl <;> rfl) (k + 1) rfl _ HAP.out (by unfold maxLen; omega) (by omega) (by simp; omega) ?_; intro A8 c8 w8 hown8 hk8 hat8; have hkA : Kept (Value.slice A' k c').ownBlock.toList wz w8 := (keptNil (((Kept.refl [] wz).drew).alloc _)).next hk8 (fun y hy => Or.inl hy); have fq8 := fun o => (hkA.frozen gq o LqZ xb).trans (FqZ o); have lq8 : gq < w8.heap.size := Nat.lt_of_lt_of_le LqZ hkA.size; have HO8 := Lib.hid hown8; have HKA := Lib.hid hkA; clear hown8 hk8 hat8 hkA)
    refine hK.out _ _ ?_ (fun hHeld => ?_)
    · (first | (with_reducible assumption) | exact SXt.of (keptNil (Kept.refl _ _).drew) L0Z LqZ hlz xa xb xc | exact SXt.of (hHeld.1.alloc _) L0Z LqZ hlz xa xb xc | exact SXt.of HKA.out L0Z LqZ hlz xa xb xc)
    clear hK K
    try simp only [Act.put, List.setIfInBounds_toArray, List.set_cons_zero, List.set_cons_succ]
    refine WE_tk 17 ?_
    refine WE_last rfl (by kernel_rfl) (fun K hK => ?_)
    go_simp
    refine hK.out _ _ ?_
    clear hK K
    have HB8 := Lib.hid (HKA.out.blk xb HBQZ.out)
    have HK8 : Hid (Kept [gq] wr w8) := Lib.hid (HKZ.out.next HKA.out (fun y hy => Or.inr (by have := own_ge OWN.out (by simpa using hy); have := HBS.out; omega)))
    refine act_namedT (fun Z => Blk Z gq [.slice A1 n1 c1, .slice A2 n2 c2, .int .i64 p.mn, .int .i64 p.F, .slice A i c, .slice A8 (k + 1) c8] ∧ Z.ownsRow bs 54 2 (.slice A8 (k + 1) c8) (k + 1) (If.sdcells ((pf p).sd.take (k + 1))) ∧ Kept [gq] wr Z) ⟨HB8.out.set 5 _, own_keptT (X := [gq]) HO8.out ((Kept.refl [gq] w8).set gq 5 _ (.inl (by simp))) (fun g hg => by have := own_ge HO8.out hg; simp; omega), HK8.out.set gq 5 _ (.inl (by simp))⟩ ?_
    rintro Z ⟨hbZ, hoZ, hkZ⟩
    have HBZ := Lib.hid hbZ
    have HOZ := Lib.hid hoZ
    have HKZ2 := Lib.hid hkZ
    clear hbZ hoZ hkZ
    go_wp2_with fail
    exact ⟨⟨k + 1, A8, c8, by omega, by go_num, HBZ, HOZ, HKZ2⟩, by simp [intOf]; omega⟩
  obtain ⟨b3, o3, Ai, ni, ci, e3, hl3, hc3, hxp⟩ := Fls.rowT HI.out.fl HBR.out hlt
  subst e3
  have hl3r : b3 < wr.heap.size := by have := HBR.out.size; omega
  have hi1 : (i : Int) < (n3 : Int) := by omega
  have hni : ni ≤ 8192 := by have h1 := (HO.out.fl i (by have := HI.out.fl.1; omega)).1; have h2 := hxp.1; omega
  have HXP := Lib.hid hxp
  obtain ⟨l, el⟩ : ∃ l, If.gf (pf p).fl i = l := ⟨_, rfl⟩
  have HLN : Hid (l.length = ni) := Lib.hid (by rw [← el, pf_gf, List.length_map]; exact hxp.1)
  have HEL := Lib.hid el
  have HC3 := Lib.hid hc3
  obtain ⟨bi, hbi⟩ : ∃ bi, wr.heap.size = bi := ⟨_, rfl⟩
  have HBI := Lib.hid hbi
  have h0i : b0 < bi := by omega
  have hqi : gq < bi := by omega
  have h3i : b3 < bi := by omega
  clear el hxp hbi
  go_wp2_with fail
  clear L0R C0R F0R hc3
  go_loopw [7, 8] (fun s7 s8 wz => ∃ (j : Nat) (A' : Option Addr) (c' : Nat), j ≤ ni ∧ s8 = .int .i64 j ∧ s7 = .slice A' j c' ∧ Hid (wz.ownsRow bi 48 2 (.slice A' j c') j (If.prcells (l.take j))) ∧ Hid (Kept [] wr wz)) (fun _ s8 _ => ni - (intOf s8).toNat)
  case atStart => exact ⟨0, none, 0, Nat.zero_le _, rfl, rfl, Lib.hid (World.ownsRow_nil _ _ _ _), Lib.hid (Kept.refl _ _)⟩
  case round =>
  rename World => wz
  obtain ⟨j, A', c', hj9, rfl, rfl, OWN, HKZ⟩ := hrel
  have HB0Z := Lib.hid (HKZ.out.blk (by simp) HB0R.out)
  have ⟨L0Z, C0Z, F0Z⟩ := HB0Z.out
  have hl3z : b3 < wz.heap.size := Nat.lt_of_lt_of_le hl3r HKZ.out.size
  have hc3 := (HKZ.out.cell b3 (o3 + i) hl3r (by simp)).trans HC3.out
  have hwz : bi ≤ wz.heap.size := by have := HKZ.out.size; have := HBI.out; omega
  have hbz9 : base ≤ wz.heap.size := by have := HBI.out; omega
  by_cases hltj : j < ni
  case neg =>
    obtain rfl : j = ni := by omega
    clear hltj
    have ⟨LqZ, CqZ, FqZ⟩ := HKZ.out.blk (by simp) HBQR.out
    have OWZ := Lib.hid (own_keptT (X := []) OWR.out HKZ.out (by simp))
    have HPL : Hid (If.Prs wz A' j (If.gf (pf p).fl i) ∧ j ≤ c') := Lib.hid (by
      have h1 := If.Prs.own OWN.out (by rw [List.length_take, HLN.out]; omega)
      rw [HEL.out]
      exact ⟨h1.1.take_all (by rw [← HLN.out]), h1.2⟩)
    have HTG : Hid (∀ a, A' = some a → base ≤ a.block ∧ Tag wz a.block 48) := Lib.hid (fun a ha => ⟨by have := (own_addr OWN.out ha).1; have := HBI.out; omega, (own_addr OWN.out ha).2.1⟩)
    have HRZ := Lib.hid (HRP.out.kept HKZ.out (by simp))
    have HRS := Lib.hid (HRZ.out.snoc HPL.out.1 HPL.out.2 HTG.out)
    have HAP : Hid (If.rowsP R i ++ [Value.slice A' j c'] = If.rowsP (If.updP R i (A', j, c')) (i + 1)) := Lib.hid (If.rowsP_snoc R i j c' A')
    have HKVZ : Hid (Kept [gq] V wz) := Lib.hid (HKR.out.next HKZ.out (by simp))
    have HBQZ := Lib.hid (HKZ.out.blk (by simp) HBQR.out)
    go_wp2_with (at_builtin; refine wpList_append_rd _ rfl _ _ 40 rfl base 46 j0 (.slice none 0 0) 1 24 Tryd.underlying40 ji jz0 jz1 jz2 rfl (by decide) (.slice A i c) i _ rfl (own_keptT (X := []) OWZ.out ((Kept.refl _ _).alloc _) (by simp)) (some ⟨wz.heap.size, 0, none⟩) 1 1 [.slice A' j c'] rfl (Rd.new1 _ _ _ _ rfl) (fun h => by cases h) (by intro u hu; have hu := List.mem_singleton.1 hu; subst hu; rfl) (i + 1) rfl _ HAP.out (by unfold maxLen; omega) (by omega) (by simp; omega) ?_; intro A8 c8 w8 hown8 hk8 hat8; have HO8 := Lib.hid hown8; have HB8 := Lib.hid (hk8.blk (b := gq) (fun hm => by have := own_ge OWZ.out (by simpa using hm); omega) (((Kept.refl [] _).alloc _).blk (by simp) HBQZ.out)); have HR8 := Lib.hid ((HRS.out.kept ((Kept.refl [] wz).alloc (.cells #[.slice A' j c'] 46)) (by simp)).kept hk8 (fun b ht hb hm => Tag.ne ht (own_tag (own_keptT (X := []) OWZ.out ((Kept.refl _ _).alloc _) (by simp)) (by simpa using hm)) (by decide) rfl)); have HK8 := Lib.hid ((HKVZ.out.alloc (.cells #[.slice A' j c'] 46)).next hk8 (fun y hy => Or.inr (by have := own_ge OWZ.out (by simpa using hy); have := HBASE.out; omega))); have ⟨L8, C8, F8⟩ := HB8.out; clear hown8 hk8 hat8)
    exact ⟨⟨i + 1, _, A8, c8, by omega, by go_num, HB8.out.set 4 _, own_keptT (X := [gq]) HO8.out ((Kept.refl [gq] w8).set gq 4 _ (.inl (by simp))) (fun g hg => by have := own_ge HO8.out hg; simp; omega), HR8.out.kept ((Kept.refl [gq] w8).set gq 4 _ (.inl (by simp))) (fun b _ hb => by simp; omega), HK8.out.set gq 4 _ (.inl (by simp))⟩, by simp [intOf]; omega⟩
  obtain ⟨b5, o5, e5, hl5, hc5⟩ := HXP.out.2 (by omega)
  subst e5
  obtain ⟨qi, qo, qk, qb, qc, eq⟩ : ∃ qi qo qk qb qc, gx (gl p.fl i) j = ⟨qi, qo, qk, qb, qc⟩ := ⟨_, _, _, _, _, rfl⟩
  have HEQ2 : Hid (If.gp l j = ⟨qi, qo⟩) := Lib.hid (by rw [← HEL.out, pf_gf, pf_gp, eq])
  have hbz : Below w.heap.size w wz := (HBR.out.trans (HKZ.out.toBelow.mono HBR.out.size))
  have h5 := hc5 j hltj
  rw [eq] at h5
  obtain ⟨q0, q1, q2, q3, q4⟩ := h5
  have x0 := (hbz.cell (p := ⟨b5, _, none⟩) hl5).trans q0
  have x1 := (hbz.cell (p := ⟨b5, _, none⟩) hl5).trans q1
  have hj1 : (j : Int) < (ni : Int) := by omega
  have hlz : b5 < wz.heap.size := Nat.lt_of_lt_of_le hl5 hbz.size
  have h5i : b5 < bi := by have := HBR.out.size; have := HBI.out; omega
  have HAP : Hid (If.prcells (l.take j) ++ [.int .i64 qi, .int .i64 qo] = If.prcells (l.take (j + 1))) := Lib.hid (by
    rw [If.take_gp _ (by rw [HLN.out]; exact hltj), HEQ2.out]
    exact If.prcells_snoc _ ⟨qi, qo⟩)
  have xa : b0 ∉ (Value.slice A' j c').ownBlock.toList := fun hm => by have := own_ge OWN.out (by simpa using hm); omega
  have xb : b3 ∉ (Value.slice A' j c').ownBlock.toList := fun hm => by have := own_ge OWN.out (by simpa using hm); omega
  have xc : b5 ∉ (Value.slice A' j c').ownBlock.toList := fun hm => by have := own_ge OWN.out (by simpa using hm); omega
  clear q0 q1 q2 q3 q4 hc5 eq hbz
  go_upto_region 12 with fail
  refine wp_region_E 22 (fun w' => SXt (Value.slice A' j c').ownBlock.toList b0 b3 b5 wz w') (by kernel_rfl) (by (first | (with_reducible assumption) | exact SXt.of (keptNil (Kept.refl _ _).drew) L0Z hl3z hlz xa xb xc | exact SXt.of (hHeld.1.alloc _) L0Z hl3z hlz xa xb xc | exact SXt.of HKA.out L0Z hl3z hlz xa xb xc)) (fun hHeld => ?_)
  refine WE_tk 0 ?_
  refine WE_tk 1 ?_
  refine WE_tk 2 ?_
  refine WE_tk 3 ?_
  refine WE_tk 4 ?_
  refine WE_tk 5 ?_
  refine WE_tk 6 ?_
  refine WE_tk 7 ?_
  refine WE_tk 8 ?_
  refine WE_tk 9 ?_
  refine WE_tk 10 ?_
  refine WE_tk 11 ?_
  refine WE_tk 12 ?_
  refine WE_tk 13 ?_
  refine WE_tk 14 ?_
  refine WE_tk 15 ?_
  refine WE_tk 16 ?_
  refine WE_tk 17 ?_
  refine WE_tk 18 ?_
  refine WE_tk 19 ?_
  refine WE_step 20 rfl (by kernel_rfl) (fun K hK => ?_)
  go_simp
  refine hK.out _ _ ?_ (fun hHeld => ?_)
  · (first | (with_reducible assumption) | exact SXt.of (keptNil (Kept.refl _ _).drew) L0Z hl3z hlz xa xb xc | exact SXt.of (hHeld.1.alloc _) L0Z hl3z hlz xa xb xc | exact SXt.of HKA.out L0Z hl3z hlz xa xb xc)
  clear hK K
  try simp only [Act.put, List.setIfInBounds_toArray, List.set_cons_zero, List.set_cons_succ]
  refine WE_step 21 rfl (by kernel_rfl) (fun K hK => ?_)
  (refine step_append_rd _ rfl _ _ 46 rfl bi 48 i0 (.agg #[.int .i64 0, .int .i64 0]) 2 16 Tryd.underlying46 hi hz0 hz1 hz2 rfl (by decide) (.slice A' j c') j _ rfl (own_keptT (X := []) OWN.out (((Kept.refl [] wz).drew).alloc _) (by simp)) (some ⟨wz.heap.size, 0, none⟩) 1 1 [.int .i64 qi, .int .i64 qo] rfl (new2T _ _ _ _ _ rfl) (fun h => by cases h) (by intro u hu; simp at hu; rcases hu with rfl | rfl <;> rfl) (j + 1) rfl _ HAP.out (by unfold maxLen; omega) (by omega) (by simp; omega) ?_; intro A8 c8 w8 hown8 hk8 hat8; have hkA : Kept (Value.slice A' j c').ownBlock.toList wz w8 := (keptNil (((Kept.refl [] wz).drew).alloc _)).next hk8 (fun y hy => Or.inl hy); have HO8 := Lib.hid hown8; have HKA := Lib.hid hkA; clear hown8 hk8 hat8 hkA)
  refine hK.out _ _ ?_ (fun hHeld => ?_)
  · (first | (with_reducible assumption) | exact SXt.of (keptNil (Kept.refl _ _).drew) L0Z hl3z hlz xa xb xc | exact SXt.of (hHeld.1.alloc _) L0Z hl3z hlz xa xb xc | exact SXt.of HKA.out L0Z hl3z hlz xa xb xc)
  clear hK K
  try simp only [Act.put, List.setIfInBounds_toArray, List.set_cons_zero, List.set_cons_succ]
  refine WE_last rfl (by kernel_rfl) (fun K hK => ?_)
  go_simp
  refine hK.out _ _ ?_
  clear hK K
  have HK8 : Hid (Kept [] wr w8) := Lib.hid (HKZ.out.next HKA.out (fun y hy => Or.inr (by have := own_ge OWN.out (by simpa using hy); have := HBI.out; omega)))
  go_wp2_with fail
  exact ⟨⟨j + 1, A8, c8, by omega, by go_num, rfl, HO8, HK8⟩, by simp [intOf]; omega⟩
end Go.Proofs.YtincpmdldpakkaaDoor
namespace Go.Proofs.YtincpmdldpakkaaDoor
open Go.RowKit Go.Df Go.Df.Iv Go.Df.Sp
attribute [local go_sem ↓] Go.wp_at_zero Go.wp_at_succ
end Go.Proofs.YtincpmdldpakkaaDoor
namespace Go.Df
open Go.RowKit
namespace Iv
open Sp
theorem sum_const {α : Type} (c : Nat) : ∀ l : List α, (l.map fun _ => c).sum = l.length * c
  | [] => by simp
  | _ :: l => by
    have h := sum_const c l
    simp only [List.map_cons, List.sum_cons, h, List.length_cons, Nat.succ_mul]
    omega
theorem flat_len {α β : Type} (f : α → List β) (c : Nat) : ∀ l : List α, (∀ x ∈ l, (f x).length = c) → (l.flatMap f).length = l.length * c
  | [], _ => by simp
  | x :: l, h => by
    have h1 := flat_len f c l (fun y hy => h y (List.mem_cons_of_mem _ hy))
    have h2 := h x (by simp)
    simp only [List.flatMap_cons, List.length_append, h1, h2, List.length_cons, Nat.succ_mul]
    omega
theorem trip_len (N F : Nat) : (trip N F).length = N * (F * F) := by
  unfold trip
  rw [flat_len _ (F * F) _ (fun x _ => by rw [flat_len _ F _ (fun y _ => by simp)]; simp)]
  simp
theorem duo_len (N F : Nat) : (duo N F).length = N * F := by
  unfold duo
  rw [flat_len _ F _ (fun x _ => by simp)]
  simp
theorem mu_small {p : Vb} (h1 : p.ns.length ≤ 36) (h2 : p.F ≤ 6) : mu0 p ≤ 1000000 := by
  unfold mu0 muT muV
  rw [sum_const, sum_const, trip_len, duo_len]
  have hF : p.F.toNat ≤ 6 := by omega
  have a1 : stp top ≤ 10 := by decide
  have a2 : stpV topV ≤ 10 := by decide
  have b1 : p.F.toNat * p.F.toNat ≤ 6 * 6 := Nat.mul_le_mul hF hF
  have b2 : p.ns.length * (p.F.toNat * p.F.toNat) ≤ 36 * 36 := Nat.mul_le_mul h1 b1
  have b3 : p.ns.length * p.F.toNat ≤ 36 * 6 := Nat.mul_le_mul h1 hF
  have c1 := Nat.mul_le_mul b2 a1
  have c2 := Nat.mul_le_mul b3 a2
  omega
end Iv
end Go.Df
namespace Go.Proofs.YtincpmdldpakkaaDoor
open Go.RowKit Go.Df Go.Df.Iv Go.Df.Sp
end Go.Proofs.YtincpmdldpakkaaDoor
namespace Go.Df
open Go.RowKit
namespace Iv
open Sp
def v1 : Vb := ⟨[⟨0, 1, -1⟩, ⟨0, 2, 0⟩, ⟨0, 2, 1⟩, ⟨0, 3, -1⟩, ⟨0, 4, -1⟩], [⟨0, 1, 1, -1⟩, ⟨1, 2, 1, -1⟩, ⟨2, 3, 1, -1⟩], 0, 2, [[⟨0, 0, 2, 0, 0⟩, ⟨0, 1, 1, 0, 5⟩], [⟨0, 0, 2, 0, 0⟩, ⟨1, 1, 2, 2, 0⟩], [⟨0, 0, 2, 0, 0⟩]], []⟩
theorem v1_err : vErr v1 = 0 := by decide
def k5 : D := ⟨⟨1, 0, 5⟩, by decide, by decide +kernel, by decide +kernel⟩
def k7 : D := ⟨⟨1, 0, 7⟩, by decide, by decide +kernel, by decide +kernel⟩
def s2 : D := ⟨⟨2, 2, 0⟩, by decide, by decide +kernel, by decide +kernel⟩
theorem v1_fit : VFit v1 := by
  refine ⟨fun k q hq => ?_, fun s hs => by cases hs⟩
  match k with
  | 0 =>
    have hq : q ∈ [(⟨0, 0, 2, 0, 0⟩ : Xp), ⟨0, 1, 1, 0, 5⟩] := hq
    simp at hq
    rcases hq with rfl | rfl <;> exact ⟨by decide +kernel, by decide +kernel⟩
  | 1 =>
    have hq : q ∈ [(⟨0, 0, 2, 0, 0⟩ : Xp), ⟨1, 1, 2, 2, 0⟩] := hq
    simp at hq
    rcases hq with rfl | rfl <;> exact ⟨by decide +kernel, by decide +kernel⟩
  | 2 =>
    have hq : q ∈ [(⟨0, 0, 2, 0, 0⟩ : Xp)] := hq
    simp at hq
    subst hq
    exact ⟨by decide +kernel, by decide +kernel⟩
  | _ + 3 => cases hq
theorem xd_zero : xd ⟨0, 0, 2, 0, 0⟩ = shift := Subtype.ext (xd_is (by decide) (by decide +kernel) (by decide +kernel))
theorem xd_five : xd ⟨0, 1, 1, 0, 5⟩ = k5 := Subtype.ext (xd_is (by decide) (by decide +kernel) (by decide +kernel))
theorem xd_two : xd ⟨1, 1, 2, 2, 0⟩ = s2 := Subtype.ext (xd_is (by decide) (by decide +kernel) (by decide +kernel))
def v1T (n a d : Nat) : D := if a ≠ 0 then top else match n, d with
  | 0, 0 => shift
  | 1, 0 => shift
  | 2, 0 => shift
  | 3, 0 => shift
  | 1, 1 => k5
  | 2, 1 => k7
  | _, _ => top
theorem v1T_no {n a d : Nat} (h : a ≠ 0) : v1T n a d = top := if_pos h
theorem c_shift : comp shift shift = shift := by decide +kernel
theorem c_five : comp shift k5 = k5 := by decide +kernel
theorem c_seven : comp k5 s2 = k7 := by decide +kernel
theorem v1_len : v1.es.length = 3 := rfl
theorem v1_clo : Clo v1 v1T := by
  have h0 : ∀ (T : D), le T (comp top (xd ⟨0, 0, 2, 0, 0⟩)) := fun T => by rw [top_comp]; exact le_top _
  refine ⟨le_refl _, (fun s hs => by cases hs), fun k hk _ q hq a => ?_, fun k hk h2 => ?_, fun c hc h2 => ?_⟩
  · rw [v1_len] at hk
    by_cases ha : a = 0
    · subst ha
      match k, hk with
      | 0, _ =>
        have hq : q ∈ [(⟨0, 0, 2, 0, 0⟩ : Xp), ⟨0, 1, 1, 0, 5⟩] := hq
        simp at hq
        rcases hq with rfl | rfl
        · rw [xd_zero]; show le shift (comp shift shift); rw [c_shift]; exact le_refl _
        · rw [xd_five]; show le k5 (comp shift k5); rw [c_five]; exact le_refl _
      | 1, _ =>
        have hq : q ∈ [(⟨0, 0, 2, 0, 0⟩ : Xp), ⟨1, 1, 2, 2, 0⟩] := hq
        simp at hq
        rcases hq with rfl | rfl
        · rw [xd_zero]; show le shift (comp shift shift); rw [c_shift]; exact le_refl _
        · rw [xd_two]; show le k7 (comp k5 s2); rw [c_seven]; exact le_refl _
      | 2, _ =>
        have hq : q ∈ [(⟨0, 0, 2, 0, 0⟩ : Xp)] := hq
        simp at hq
        subst hq
        rw [xd_zero]; show le shift (comp shift shift); rw [c_shift]; exact le_refl _
    · rw [v1T_no ha (n := (ge v1.es k).a.toNat), top_comp]
      exact le_top _
  · rw [v1_len] at hk
    match k, hk with
    | 0, _ => exact absurd h2 (by decide)
    | 1, _ => exact absurd h2 (by decide)
    | 2, _ => exact absurd h2 (by decide)
  · rw [v1_len] at hc
    match c, hc with
    | 0, _ => exact absurd h2 (by decide)
    | 1, _ => exact absurd h2 (by decide)
    | 2, _ => exact absurd h2 (by decide)
theorem v1_snd : Snd v1 v1T := fun U hU => by
  have h00 : le (U 0 0 0) shift := hU.main
  have f : ∀ k, k < 3 → (ge v1.es k).k = 1 → ∀ q ∈ gl v1.fl k, le (U (ge v1.es k).b.toNat 0 q.o.toNat) (comp (U (ge v1.es k).a.toNat 0 q.i.toNat) (xd q)) := fun k hk h q hq => hU.flow k hk (.inl h) q hq 0
  have h10 : le (U 1 0 0) shift := by
    have h1 := f 0 (by omega) rfl ⟨0, 0, 2, 0, 0⟩ (by show _ ∈ [(⟨0, 0, 2, 0, 0⟩ : Xp), ⟨0, 1, 1, 0, 5⟩]; simp)
    rw [xd_zero] at h1
    exact le_trans h1 (by have h2 := comp_mono h00 (le_refl shift); rw [c_shift] at h2; exact h2)
  have h11 : le (U 1 0 1) k5 := by
    have h1 := f 0 (by omega) rfl ⟨0, 1, 1, 0, 5⟩ (by show _ ∈ [(⟨0, 0, 2, 0, 0⟩ : Xp), ⟨0, 1, 1, 0, 5⟩]; simp)
    rw [xd_five] at h1
    exact le_trans h1 (by have h2 := comp_mono h00 (le_refl k5); rw [c_five] at h2; exact h2)
  have h20 : le (U 2 0 0) shift := by
    have h1 := f 1 (by omega) rfl ⟨0, 0, 2, 0, 0⟩ (by show _ ∈ [(⟨0, 0, 2, 0, 0⟩ : Xp), ⟨1, 1, 2, 2, 0⟩]; simp)
    rw [xd_zero] at h1
    exact le_trans h1 (by have h2 := comp_mono h10 (le_refl shift); rw [c_shift] at h2; exact h2)
  have h21 : le (U 2 0 1) k7 := by
    have h1 := f 1 (by omega) rfl ⟨1, 1, 2, 2, 0⟩ (by show _ ∈ [(⟨0, 0, 2, 0, 0⟩ : Xp), ⟨1, 1, 2, 2, 0⟩]; simp)
    rw [xd_two] at h1
    exact le_trans h1 (by have h2 := comp_mono h11 (le_refl s2); rw [c_seven] at h2; exact h2)
  have h30 : le (U 3 0 0) shift := by
    have h1 := f 2 (by omega) rfl ⟨0, 0, 2, 0, 0⟩ (by show _ ∈ [(⟨0, 0, 2, 0, 0⟩ : Xp)]; simp)
    rw [xd_zero] at h1
    exact le_trans h1 (by have h2 := comp_mono h20 (le_refl shift); rw [c_shift] at h2; exact h2)
  intro n a d
  unfold v1T
  split
  · exact le_top _
  · rename_i ha
    obtain rfl : a = 0 := Classical.not_not.mp ha
    split <;> first | exact h00 | exact h10 | exact h20 | exact h30 | exact h11 | exact h21 | exact le_top _
def v1V (n a : Nat) : U := if n = 0 ∧ a = 0 then botV else topV
theorem v1_vclo : VClo v1 v1T v1V := by
  refine ⟨leV_refl _, fun k hk h2 => ?_⟩
  rw [v1_len] at hk
  match k, hk with
  | 0, _ => exact absurd h2 (by decide)
  | 1, _ => exact absurd h2 (by decide)
  | 2, _ => exact absurd h2 (by decide)
theorem v1_vsnd : VSnd v1 v1T v1V := fun Y hY n a => by
  unfold v1V
  split
  · rename_i h; obtain ⟨rfl, rfl⟩ := h; exact hY.main
  · exact leV_top _
theorem v1_sol {S : Nat → Nat → U} (h : IsSol v1 S) {n d : Nat} (hn : n < 5) (hd : d < 2) : S n d = solV v1 v1T v1V n d := by
  refine h.eq ⟨v1T, v1V, v1_clo, v1_snd, v1_vclo, v1_vsnd, fun n d _ _ => solV_glb (fun a ha => v1T_no (by have : v1.F.toNat = 2 := rfl; omega))⟩ hn hd
theorem v1_21 : (solV v1 v1T v1V 2 1).1 = ⟨1, 7⟩ := by decide +kernel
theorem v1_30 : (solV v1 v1T v1V 3 0).1 = ⟨2, 0⟩ := by decide +kernel
theorem v1_31 : (solV v1 v1T v1V 3 1).1 = ⟨0, 0⟩ := by decide +kernel
theorem v1_40 : (solV v1 v1T v1V 4 0).1 = ⟨0, 0⟩ := by decide +kernel
end Iv
end Go.Df
