/- The contract of the solver's step (printed by genJk.py). -/
import Derived.Test.YtffkikhknabddaaZl
namespace Go.Df.If
theorem stepE_wf {p : Pb} (ho : Ok p) {a d : Nat} (ha : a < p.F.toNat) {n : Nat} : ∀ k ∈ outL p n, ∀ t, Wf p t → Wf p (stepE p a d t k) := fun k hk t ht => by
  unfold stepE
  split
  · exact spread_wf ho (outL_mem.1 hk).1 ha ht
  · split
    · rename_i hk2
      refine fold_keep (Q := Wf p) _ t (fun q hq u hu => ?_) ht
      have h1 := ho.pair (by rw [ho.len]; exact (outL_mem.1 hk).1) (mem_froms.1 hq).1
      exact enter1_wf ho (outL_mem.1 hk).1 hk2 ha (by omega) hu
    · exact ht
theorem seed1_wf {p : Pb} (ho : Ok p) {n : Nat} (hn : n < p.ns.length) : ∀ x ∈ seedL p n, ∀ t, Wf p t → Wf p (t.add n 0 x.f.toNat) := fun x hx t ht => by
  have := ho.seed (seedL_mem.1 hx).1
  have := ho.f1
  exact ht.add hn (by omega) (by omega)
end Go.Df.If
namespace Go.Proofs.Ytffkikhknabddaa
open Go.RowKit Go.Df Go.Df.If
attribute [local go_sem ↓] Go.wp_at_zero Go.wp_at_succ

set_option maxRecDepth 100000 in
set_option maxHeartbeats 100000000 in
theorem tstep_any {p : Pb} {K : Kn} {w0 : World} {b : Nat} {O : Nat → Prop} {G : Gh} {s : St} (w : World) (n a d : Nat) (hI : Inp p K w0) (ho : Ok p) (hw : Wf p s) (hm : Mem p K w0 b O G w s) (hn : n < p.ns.length) (haF : a < p.F.toNat) :
    Calls Try.prog 117 #[.pointer (some ⟨b, 0, none⟩), .int .i64 n, .int .i64 a, .int .i64 d] w (GetMem p K w0 b O w (If.step p n a d s)) := by
  have hF2 : p.F.toNat ≤ 1024 := by have := ho.f2; omega
  have hE2 : p.es.length ≤ 32768 := (sup_parts ho.sup).2.1
  have hN2 : p.ns.length ≤ 8192 := (sup_parts ho.sup).1
  have HN1 := Lib.hid hI.nd.1.symm
  have hn1 : n < K.n1 := by rw [HN1.out]; exact hn
  have hn1' : (n : Int) < (K.n1 : Int) := by omega
  have HM := Lib.hid hm
  have HW := Lib.hid hw
  have HI := Lib.hid hI
  have HO := Lib.hid ho
  by_cases hz : a = 0 ∧ d = 0
  · obtain ⟨rfl, rfl⟩ := hz
    have B0 := hm.box
    unfold sbox at B0
    have ⟨LB, CB, FB⟩ := B0
    obtain ⟨A5, n5, c5, r5, hs5⟩ := hm.seeds.2 n hn1
    have hrs := hm.seeds.1.1
    have HS5 := Lib.hid hs5
    have hn5 : n5 = (seedL p n).length := by have := hs5.1.1.1; rw [List.length_map] at this; exact this.symm
    have HN5 := Lib.hid hn5
    have hn5b : n5 ≤ c5 ∧ c5 ≤ 9223372036854775807 := ⟨hs5.1.2.1, hs5.1.2.2.1⟩
    have h5a := hn5b.1
    have h5b := hn5b.2
    clear hm hw hI ho hs5 hn5 hn5b
    go_enter Try.func117, Try.ntmps117
    go_wp2_with fail
    go_loopw [26] (fun s26 wr => ∃ (j : Nat) (O' : Nat → Prop) (G' : Gh), j ≤ n5 ∧ s26 = .int .i64 j ∧ Hid (Mem p K w0 b O' G' wr (upTo (fun s x => s.add n 0 x.f.toNat) (seedL p n) s j)) ∧ Hid (Fx O O' w wr)) (fun s26 _ => n5 - (intOf s26).toNat)
    case atStart => exact ⟨0, O, G, Nat.zero_le _, rfl, by rw [upTo_zero]; exact HM, Lib.hid (Fx.refl _ _)⟩
    case round =>
    clear CB FB B0 LB r5 hrs HM
    obtain ⟨j, OT, GT, hj, rfl, MT, FT⟩ := hrel
    have HW1 := Lib.hid (upTo_keep (Q := Wf p) (s := s) (l := seedL p n) (f := fun s x => s.add n 0 x.f.toNat) j (seed1_wf HO.out hn) HW.out)
    by_cases hlt : j < n5
    · obtain ⟨b5, o5, rfl, hl5, hc5⟩ := (HS5.out.fx FT.out).1.1.2 (by omega)
      have hj5 : j < (seedL p n).length := by rw [← HN5.out]; exact hlt
      have r5 := hc5 j hlt
      have hmm := seedL_mem.1 (List.getElem_mem hj5)
      have hsd := HO.out.seed hmm.1
      obtain ⟨f, hf⟩ := Int.eq_ofNat_of_zero_le (show 0 ≤ ((seedL p n)[j]).f by omega)
      rw [gi_lt (by rw [List.length_map]; exact hj5), List.getElem_map, hf] at r5
      have hfF : f < p.F.toNat := by omega
      have hj1 : (j : Int) < (n5 : Int) := by omega
      have HSJ : Hid (upTo (fun s x => s.add n 0 x.f.toNat) (seedL p n) s (j + 1) = (upTo (fun s x => s.add n 0 x.f.toNat) (seedL p n) s j).add n 0 f) := by
        show _ = _
        rw [upTo_succ _ _ _ hj5, hf, Int.toNat_natCast]
      clear hf hmm hsd hc5
      go_wp2_with (go_at_call 115; refine (add_any _ n 0 f HI.out HO.out HW1.out MT.out hn haF hfF).mono ?_; intro e w9 hG9; obtain ⟨O9, G9, rfl, M9, F9⟩ := hG9)
      exact ⟨⟨j + 1, O9, G9, by omega, by go_num, Lib.hid (M9.eq HSJ.out.symm), Lib.hid (FT.out.trans F9)⟩, by simp [intOf]; omega⟩
    obtain rfl : j = n5 := by omega
    obtain ⟨t1, ht1⟩ : ∃ t1, t1 = stepA p n 0 0 s := ⟨_, rfl⟩
    have HT1 := Lib.hid ht1
    have HEQ : Hid (upTo (fun s x => s.add n 0 x.f.toNat) (seedL p n) s j = t1) := by show _ = _; rw [HT1.out, HN5.out, upTo_all]; unfold stepA; rw [if_pos ⟨rfl, rfl⟩]
    rw [HEQ.out] at MT HW1
    clear ht1 HEQ HS5 hlt
    rename World => wt
    have BT := MT.out.box
    unfold sbox at BT
    have ⟨LT, CT, FTb⟩ := BT
    obtain ⟨A6, n6, c6, r6, hs6⟩ := MT.out.out.2 n hn1
    have hro := MT.out.out.1.1
    have HS6 := Lib.hid hs6
    have hn6 : n6 = (outL p n).length := by have := hs6.1.1.1; rw [ofNats_len] at this; exact this.symm
    have hn6b : n6 ≤ 32768 := by
      have h1 : (outL p n).length ≤ (List.range p.es.length).length := List.length_filter_le _ _
      rw [List.length_range] at h1
      omega
    have HN6 := Lib.hid hn6
    clear hs6 hn6
    go_wp2_with fail
    go_loopw [43] (fun s43 wr => ∃ (j : Nat) (O' : Nat → Prop) (G' : Gh), j ≤ n6 ∧ s43 = .int .i64 j ∧ Hid (Mem p K w0 b O' G' wr (upTo (stepE p 0 0) (outL p n) t1 j)) ∧ Hid (Fx O O' w wr) ∧ Hid (Fx OT O' wt wr)) (fun s43 _ => n6 - (intOf s43).toNat)
    case atStart => exact ⟨0, OT, GT, Nat.zero_le _, rfl, by rw [upTo_zero]; exact MT, FT, Lib.hid (Fx.refl _ _)⟩
    case round =>
    rename World => wr
    clear MT FT CT FTb r6 hro
    obtain ⟨j, O1, G1, hj, rfl, MR, FR, FR0⟩ := hrel
    have BR := MR.out.box
    unfold sbox at BR
    have ⟨LR, CR, FRb⟩ := BR
    have HWj := Lib.hid (upTo_keep (Q := Wf p) (s := t1) (l := outL p n) (f := stepE p 0 0) j (stepE_wf HO.out haF) HW1.out)
    by_cases hlt : j < n6
    case neg =>
      obtain rfl : j = n6 := by omega
      have HEND : Hid (upTo (stepE p 0 0) (outL p n) t1 j = (outL p n).foldl (stepE p 0 0) (stepA p n 0 0 s)) := by show _ = _; rw [HN6.out, upTo_all, HT1.out]
      rw [HEND.out] at MR HWj
      obtain ⟨b1, o1, e1, hl1, hc1⟩ := HI.out.nd.2 (by omega)
      have q1 : wr.cell? ⟨b1, o1 + n * 3 + 1, none⟩ = some (.int .i64 (gn p.ns n).k) := (MR.out.low.cell (p := ⟨b1, _, none⟩) hl1).trans (hc1 n hn1).2.1
      have hl1r : b1 < wr.heap.size := Nat.lt_of_lt_of_le hl1 MR.out.low.size
      obtain ⟨nk, hnk⟩ : ∃ nk, (gn p.ns n).k = nk := ⟨_, rfl⟩
      rw [hnk] at q1
      have HNK := Lib.hid hnk
      clear hnk hc1 hl1
      by_cases h3 : nk = 3
      · subst h3
        go_wp2_with (go_at_call 148; refine (leave_any _ n 0 0 HI.out HO.out HWj.out MR.out hn (by omega)).mono ?_; intro e w9 hG9; obtain ⟨O9, G9, rfl, M9, F9⟩ := hG9)
        go_end0
        exact ⟨O9, G9, rfl, M9.eq (by unfold If.step; rw [if_pos (.inl HNK.out)]), FR.out.trans F9⟩
      · by_cases h4 : nk = 4
        · subst h4
          go_wp2_with (go_at_call 148; refine (leave_any _ n 0 0 HI.out HO.out HWj.out MR.out hn (by omega)).mono ?_; intro e w9 hG9; obtain ⟨O9, G9, rfl, M9, F9⟩ := hG9)
          go_end0
          exact ⟨O9, G9, rfl, M9.eq (by unfold If.step; rw [if_pos (.inr HNK.out)]), FR.out.trans F9⟩
        · have h3' : (nk == 3) = false := by simpa using h3
          have h4' : (nk == 4) = false := by simpa using h4
          have HK34 : Hid (¬ ((gn p.ns n).k = 3 ∨ (gn p.ns n).k = 4)) := by show ¬ _; rw [HNK.out]; omega
          clear h3 h4
          go_wp2_with fail
          go_end0
          exact ⟨O1, G1, rfl, MR.out.eq (by unfold If.step; rw [if_neg HK34.out]), FR.out⟩
    obtain ⟨b6, o6, rfl, hl6, hj6, r6⟩ := sin_at (HS6.out.fx FR0.out) hlt
    obtain ⟨k, hk⟩ : ∃ k, (outL p n)[j] = k := ⟨_, rfl⟩
    rw [hk] at r6
    have hkL : k ∈ outL p n := by rw [← hk]; exact List.getElem_mem hj6
    have hke : k < p.es.length := (outL_mem.1 hkL).1
    have hj1 : (j : Int) < (n6 : Int) := by omega
    have HSJ : Hid (upTo (stepE p 0 0) (outL p n) t1 (j + 1) = stepE p 0 0 (upTo (stepE p 0 0) (outL p n) t1 j) k) := by
      show _ = _
      rw [upTo_succ _ _ _ hj6, hk]
    obtain ⟨t2, ht2⟩ : ∃ t2, t2 = upTo (stepE p 0 0) (outL p n) t1 j := ⟨_, rfl⟩
    rw [← ht2] at MR HWj HSJ
    obtain ⟨b2, o2, ea, eb, -, e2, -, hl2, hk2, hea, heb, hea2, heb2, -, -, r2c, -, -⟩ := HI.out.edge HO.out MR.out.low hke
    obtain ⟨ek, hek⟩ : ∃ x, (ge p.es k).k = x := ⟨_, rfl⟩
    rw [hek] at r2c
    have HEK := Lib.hid hek
    clear hk ht2 hkL hea heb hek
    by_cases k1 : ek = 1
    · subst k1
      go_wp2_with (go_at_call 146; refine (spread_any _ k 0 0 HI.out HO.out HWj.out MR.out hke haF).mono ?_; intro e w9 hG9; obtain ⟨O9, G9, rfl, M9, F9⟩ := hG9)
      exact ⟨⟨j + 1, O9, G9, by omega, by go_num, Lib.hid (M9.eq (by rw [HSJ.out]; unfold stepE; rw [if_pos (.inl HEK.out)])), Lib.hid (FR.out.trans F9), Lib.hid (FR0.out.trans F9)⟩, by simp [intOf]; omega⟩
    by_cases k5 : ek = 5
    · subst k5
      go_wp2_with (go_at_call 146; refine (spread_any _ k 0 0 HI.out HO.out HWj.out MR.out hke haF).mono ?_; intro e w9 hG9; obtain ⟨O9, G9, rfl, M9, F9⟩ := hG9)
      exact ⟨⟨j + 1, O9, G9, by omega, by go_num, Lib.hid (M9.eq (by rw [HSJ.out]; unfold stepE; rw [if_pos (.inr HEK.out)])), Lib.hid (FR.out.trans F9), Lib.hid (FR0.out.trans F9)⟩, by simp [intOf]; omega⟩
    have k1' : (ek == 1) = false := by simpa using k1
    have k5' : (ek == 5) = false := by simpa using k5
    have HK15 : Hid (¬ ((ge p.es k).k = 1 ∨ (ge p.es k).k = 5)) := by show ¬ _; rw [HEK.out]; omega
    by_cases k2 : ek = 2
    · subst k2
      clear k1 k5
      go_wp2_with (go_at_call 147; refine (enter_any _ k 0 0 HI.out HO.out HWj.out MR.out hke HEK.out haF).mono ?_; intro e w9 hG9; obtain ⟨O9, G9, rfl, M9, F9⟩ := hG9)
      exact ⟨⟨j + 1, O9, G9, by omega, by go_num, Lib.hid (M9.eq (by rw [HSJ.out]; unfold stepE; rw [if_neg HK15.out, if_pos HEK.out])), Lib.hid (FR.out.trans F9), Lib.hid (FR0.out.trans F9)⟩, by simp [intOf]; omega⟩
    have k2' : (ek == 2) = false := by simpa using k2
    have HK2 : Hid (¬ (ge p.es k).k = 2) := by show ¬ _; rw [HEK.out]; exact k2
    clear k1 k5 k2
    go_wp2_with fail
    exact ⟨⟨j + 1, O1, G1, by omega, by go_num, Lib.hid (MR.out.eq (by rw [HSJ.out]; unfold stepE; rw [if_neg HK15.out, if_neg HK2.out])), FR, FR0⟩, by simp [intOf]; omega⟩
  · have B0 := hm.box
    unfold sbox at B0
    have ⟨LB, CB, FB⟩ := B0
    have MT := HM
    have FT : Hid (Fx O O w w) := Lib.hid (Fx.refl _ _)
    obtain ⟨OT, hOT⟩ : ∃ OT, OT = O := ⟨_, rfl⟩
    obtain ⟨GT, hGT⟩ : ∃ GT, GT = G := ⟨_, rfl⟩
    obtain ⟨t1, ht1⟩ : ∃ t1, t1 = stepA p n a d s := ⟨_, rfl⟩
    have HT1 := Lib.hid ht1
    have HTS : Hid (s = t1) := by show _ = _; rw [HT1.out]; unfold stepA; rw [if_neg hz]
    have HW1 : Hid (Wf p t1) := Lib.hid (by rw [← HTS.out]; exact HW.out)
    have MT : Hid (Mem p K w0 b OT GT w t1) := Lib.hid (by rw [← HTS.out, hOT, hGT]; exact HM.out)
    have FT : Hid (Fx O OT w w) := Lib.hid (by rw [hOT]; exact Fx.refl _ _)
    have z1 : (if (a : Int) = 0 then decide ((d : Int) = 0) else false) = false := by
      by_cases h1 : a = 0
      · rw [if_pos (by omega)]; simp; omega
      · rw [if_neg (by omega)]
    clear hOT hGT ht1 hm hw hI ho
    by_cases ha0 : a = 0
    · subst ha0
      have hd0 : ((d : Int) == 0) = false := by simp; omega
      have hd1 : (d == 0) = false := by simp; omega
      clear hz z1
      go_enter Try.func117, Try.ntmps117
      go_upto_region 6 with fail
      have BT := MT.out.box
      unfold sbox at BT
      have ⟨LT, CT, FTb⟩ := BT
      obtain ⟨A6, n6, c6, r6, hs6⟩ := MT.out.out.2 n hn1
      have hro := MT.out.out.1.1
      have HS6 := Lib.hid hs6
      have hn6 : n6 = (outL p n).length := by have := hs6.1.1.1; rw [ofNats_len] at this; exact this.symm
      have hn6b : n6 ≤ 32768 := by
        have h1 : (outL p n).length ≤ (List.range p.es.length).length := List.length_filter_le _ _
        rw [List.length_range] at h1
        omega
      have HN6 := Lib.hid hn6
      clear hs6 hn6
      go_wp2_with fail
      go_loopw [43] (fun s43 wr => ∃ (j : Nat) (O' : Nat → Prop) (G' : Gh), j ≤ n6 ∧ s43 = .int .i64 j ∧ Hid (Mem p K w0 b O' G' wr (upTo (stepE p 0 d) (outL p n) t1 j)) ∧ Hid (Fx O O' w wr) ∧ Hid (Fx OT O' w wr)) (fun s43 _ => n6 - (intOf s43).toNat)
      case atStart => exact ⟨0, OT, GT, Nat.zero_le _, rfl, by rw [upTo_zero]; exact MT, FT, Lib.hid (Fx.refl _ _)⟩
      case round =>
      rename World => wr
      clear MT FT CT FTb r6 hro
      obtain ⟨j, O1, G1, hj, rfl, MR, FR, FR0⟩ := hrel
      have BR := MR.out.box
      unfold sbox at BR
      have ⟨LR, CR, FRb⟩ := BR
      have HWj := Lib.hid (upTo_keep (Q := Wf p) (s := t1) (l := outL p n) (f := stepE p 0 d) j (stepE_wf HO.out haF) HW1.out)
      by_cases hlt : j < n6
      case neg =>
        obtain rfl : j = n6 := by omega
        have HEND : Hid (upTo (stepE p 0 d) (outL p n) t1 j = (outL p n).foldl (stepE p 0 d) (stepA p n 0 d s)) := by show _ = _; rw [HN6.out, upTo_all, HT1.out]
        rw [HEND.out] at MR HWj
        obtain ⟨b1, o1, e1, hl1, hc1⟩ := HI.out.nd.2 (by omega)
        have q1 : wr.cell? ⟨b1, o1 + n * 3 + 1, none⟩ = some (.int .i64 (gn p.ns n).k) := (MR.out.low.cell (p := ⟨b1, _, none⟩) hl1).trans (hc1 n hn1).2.1
        have hl1r : b1 < wr.heap.size := Nat.lt_of_lt_of_le hl1 MR.out.low.size
        obtain ⟨nk, hnk⟩ : ∃ nk, (gn p.ns n).k = nk := ⟨_, rfl⟩
        rw [hnk] at q1
        have HNK := Lib.hid hnk
        clear hnk hc1 hl1
        by_cases h3 : nk = 3
        · subst h3
          go_wp2_with (go_at_call 148; refine (leave_any _ n 0 d HI.out HO.out HWj.out MR.out hn (by omega)).mono ?_; intro e w9 hG9; obtain ⟨O9, G9, rfl, M9, F9⟩ := hG9)
          go_end0
          exact ⟨O9, G9, rfl, M9.eq (by unfold If.step; rw [if_pos (.inl HNK.out)]), FR.out.trans F9⟩
        · by_cases h4 : nk = 4
          · subst h4
            go_wp2_with (go_at_call 148; refine (leave_any _ n 0 d HI.out HO.out HWj.out MR.out hn (by omega)).mono ?_; intro e w9 hG9; obtain ⟨O9, G9, rfl, M9, F9⟩ := hG9)
            go_end0
            exact ⟨O9, G9, rfl, M9.eq (by unfold If.step; rw [if_pos (.inr HNK.out)]), FR.out.trans F9⟩
          · have h3' : (nk == 3) = false := by simpa using h3
            have h4' : (nk == 4) = false := by simpa using h4
            have HK34 : Hid (¬ ((gn p.ns n).k = 3 ∨ (gn p.ns n).k = 4)) := by show ¬ _; rw [HNK.out]; omega
            clear h3 h4
            go_wp2_with fail
            go_end0
            exact ⟨O1, G1, rfl, MR.out.eq (by unfold If.step; rw [if_neg HK34.out]), FR.out⟩
      obtain ⟨b6, o6, rfl, hl6, hj6, r6⟩ := sin_at (HS6.out.fx FR0.out) hlt
      obtain ⟨k, hk⟩ : ∃ k, (outL p n)[j] = k := ⟨_, rfl⟩
      rw [hk] at r6
      have hkL : k ∈ outL p n := by rw [← hk]; exact List.getElem_mem hj6
      have hke : k < p.es.length := (outL_mem.1 hkL).1
      have hj1 : (j : Int) < (n6 : Int) := by omega
      have HSJ : Hid (upTo (stepE p 0 d) (outL p n) t1 (j + 1) = stepE p 0 d (upTo (stepE p 0 d) (outL p n) t1 j) k) := by
        show _ = _
        rw [upTo_succ _ _ _ hj6, hk]
      obtain ⟨t2, ht2⟩ : ∃ t2, t2 = upTo (stepE p 0 d) (outL p n) t1 j := ⟨_, rfl⟩
      rw [← ht2] at MR HWj HSJ
      obtain ⟨b2, o2, ea, eb, -, e2, -, hl2, hk2, hea, heb, hea2, heb2, -, -, r2c, -, -⟩ := HI.out.edge HO.out MR.out.low hke
      obtain ⟨ek, hek⟩ : ∃ x, (ge p.es k).k = x := ⟨_, rfl⟩
      rw [hek] at r2c
      have HEK := Lib.hid hek
      clear hk ht2 hkL hea heb hek
      by_cases k1 : ek = 1
      · subst k1
        go_wp2_with (go_at_call 146; refine (spread_any _ k 0 d HI.out HO.out HWj.out MR.out hke haF).mono ?_; intro e w9 hG9; obtain ⟨O9, G9, rfl, M9, F9⟩ := hG9)
        exact ⟨⟨j + 1, O9, G9, by omega, by go_num, Lib.hid (M9.eq (by rw [HSJ.out]; unfold stepE; rw [if_pos (.inl HEK.out)])), Lib.hid (FR.out.trans F9), Lib.hid (FR0.out.trans F9)⟩, by simp [intOf]; omega⟩
      by_cases k5 : ek = 5
      · subst k5
        go_wp2_with (go_at_call 146; refine (spread_any _ k 0 d HI.out HO.out HWj.out MR.out hke haF).mono ?_; intro e w9 hG9; obtain ⟨O9, G9, rfl, M9, F9⟩ := hG9)
        exact ⟨⟨j + 1, O9, G9, by omega, by go_num, Lib.hid (M9.eq (by rw [HSJ.out]; unfold stepE; rw [if_pos (.inr HEK.out)])), Lib.hid (FR.out.trans F9), Lib.hid (FR0.out.trans F9)⟩, by simp [intOf]; omega⟩
      have k1' : (ek == 1) = false := by simpa using k1
      have k5' : (ek == 5) = false := by simpa using k5
      have HK15 : Hid (¬ ((ge p.es k).k = 1 ∨ (ge p.es k).k = 5)) := by show ¬ _; rw [HEK.out]; omega
      by_cases k2 : ek = 2
      · subst k2
        clear k1 k5
        go_wp2_with (go_at_call 147; refine (enter_any _ k 0 d HI.out HO.out HWj.out MR.out hke HEK.out haF).mono ?_; intro e w9 hG9; obtain ⟨O9, G9, rfl, M9, F9⟩ := hG9)
        exact ⟨⟨j + 1, O9, G9, by omega, by go_num, Lib.hid (M9.eq (by rw [HSJ.out]; unfold stepE; rw [if_neg HK15.out, if_pos HEK.out])), Lib.hid (FR.out.trans F9), Lib.hid (FR0.out.trans F9)⟩, by simp [intOf]; omega⟩
      have k2' : (ek == 2) = false := by simpa using k2
      have HK2 : Hid (¬ (ge p.es k).k = 2) := by show ¬ _; rw [HEK.out]; exact k2
      clear k1 k5 k2
      go_wp2_with fail
      exact ⟨⟨j + 1, O1, G1, by omega, by go_num, Lib.hid (MR.out.eq (by rw [HSJ.out]; unfold stepE; rw [if_neg HK15.out, if_neg HK2.out])), FR, FR0⟩, by simp [intOf]; omega⟩
    · have ha1 : ((a : Int) == 0) = false := by simp; omega
      have ha2 : (a == 0) = false := by simp; omega
      clear hz z1 ha0
      go_enter Try.func117, Try.ntmps117
      go_upto_region 6 with fail
      have BT := MT.out.box
      unfold sbox at BT
      have ⟨LT, CT, FTb⟩ := BT
      obtain ⟨A6, n6, c6, r6, hs6⟩ := MT.out.out.2 n hn1
      have hro := MT.out.out.1.1
      have HS6 := Lib.hid hs6
      have hn6 : n6 = (outL p n).length := by have := hs6.1.1.1; rw [ofNats_len] at this; exact this.symm
      have hn6b : n6 ≤ 32768 := by
        have h1 : (outL p n).length ≤ (List.range p.es.length).length := List.length_filter_le _ _
        rw [List.length_range] at h1
        omega
      have HN6 := Lib.hid hn6
      clear hs6 hn6
      go_wp2_with fail
      go_loopw [43] (fun s43 wr => ∃ (j : Nat) (O' : Nat → Prop) (G' : Gh), j ≤ n6 ∧ s43 = .int .i64 j ∧ Hid (Mem p K w0 b O' G' wr (upTo (stepE p a d) (outL p n) t1 j)) ∧ Hid (Fx O O' w wr) ∧ Hid (Fx OT O' w wr)) (fun s43 _ => n6 - (intOf s43).toNat)
      case atStart => exact ⟨0, OT, GT, Nat.zero_le _, rfl, by rw [upTo_zero]; exact MT, FT, Lib.hid (Fx.refl _ _)⟩
      case round =>
      rename World => wr
      clear MT FT CT FTb r6 hro
      obtain ⟨j, O1, G1, hj, rfl, MR, FR, FR0⟩ := hrel
      have BR := MR.out.box
      unfold sbox at BR
      have ⟨LR, CR, FRb⟩ := BR
      have HWj := Lib.hid (upTo_keep (Q := Wf p) (s := t1) (l := outL p n) (f := stepE p a d) j (stepE_wf HO.out haF) HW1.out)
      by_cases hlt : j < n6
      case neg =>
        obtain rfl : j = n6 := by omega
        have HEND : Hid (upTo (stepE p a d) (outL p n) t1 j = (outL p n).foldl (stepE p a d) (stepA p n a d s)) := by show _ = _; rw [HN6.out, upTo_all, HT1.out]
        rw [HEND.out] at MR HWj
        obtain ⟨b1, o1, e1, hl1, hc1⟩ := HI.out.nd.2 (by omega)
        have q1 : wr.cell? ⟨b1, o1 + n * 3 + 1, none⟩ = some (.int .i64 (gn p.ns n).k) := (MR.out.low.cell (p := ⟨b1, _, none⟩) hl1).trans (hc1 n hn1).2.1
        have hl1r : b1 < wr.heap.size := Nat.lt_of_lt_of_le hl1 MR.out.low.size
        obtain ⟨nk, hnk⟩ : ∃ nk, (gn p.ns n).k = nk := ⟨_, rfl⟩
        rw [hnk] at q1
        have HNK := Lib.hid hnk
        clear hnk hc1 hl1
        by_cases h3 : nk = 3
        · subst h3
          go_wp2_with (go_at_call 148; refine (leave_any _ n a d HI.out HO.out HWj.out MR.out hn (by omega)).mono ?_; intro e w9 hG9; obtain ⟨O9, G9, rfl, M9, F9⟩ := hG9)
          go_end0
          exact ⟨O9, G9, rfl, M9.eq (by unfold If.step; rw [if_pos (.inl HNK.out)]), FR.out.trans F9⟩
        · by_cases h4 : nk = 4
          · subst h4
            go_wp2_with (go_at_call 148; refine (leave_any _ n a d HI.out HO.out HWj.out MR.out hn (by omega)).mono ?_; intro e w9 hG9; obtain ⟨O9, G9, rfl, M9, F9⟩ := hG9)
            go_end0
            exact ⟨O9, G9, rfl, M9.eq (by unfold If.step; rw [if_pos (.inr HNK.out)]), FR.out.trans F9⟩
          · have h3' : (nk == 3) = false := by simpa using h3
            have h4' : (nk == 4) = false := by simpa using h4
            have HK34 : Hid (¬ ((gn p.ns n).k = 3 ∨ (gn p.ns n).k = 4)) := by show ¬ _; rw [HNK.out]; omega
            clear h3 h4
            go_wp2_with fail
            go_end0
            exact ⟨O1, G1, rfl, MR.out.eq (by unfold If.step; rw [if_neg HK34.out]), FR.out⟩
      obtain ⟨b6, o6, rfl, hl6, hj6, r6⟩ := sin_at (HS6.out.fx FR0.out) hlt
      obtain ⟨k, hk⟩ : ∃ k, (outL p n)[j] = k := ⟨_, rfl⟩
      rw [hk] at r6
      have hkL : k ∈ outL p n := by rw [← hk]; exact List.getElem_mem hj6
      have hke : k < p.es.length := (outL_mem.1 hkL).1
      have hj1 : (j : Int) < (n6 : Int) := by omega
      have HSJ : Hid (upTo (stepE p a d) (outL p n) t1 (j + 1) = stepE p a d (upTo (stepE p a d) (outL p n) t1 j) k) := by
        show _ = _
        rw [upTo_succ _ _ _ hj6, hk]
      obtain ⟨t2, ht2⟩ : ∃ t2, t2 = upTo (stepE p a d) (outL p n) t1 j := ⟨_, rfl⟩
      rw [← ht2] at MR HWj HSJ
      obtain ⟨b2, o2, ea, eb, -, e2, -, hl2, hk2, hea, heb, hea2, heb2, -, -, r2c, -, -⟩ := HI.out.edge HO.out MR.out.low hke
      obtain ⟨ek, hek⟩ : ∃ x, (ge p.es k).k = x := ⟨_, rfl⟩
      rw [hek] at r2c
      have HEK := Lib.hid hek
      clear hk ht2 hkL hea heb hek
      by_cases k1 : ek = 1
      · subst k1
        go_wp2_with (go_at_call 146; refine (spread_any _ k a d HI.out HO.out HWj.out MR.out hke haF).mono ?_; intro e w9 hG9; obtain ⟨O9, G9, rfl, M9, F9⟩ := hG9)
        exact ⟨⟨j + 1, O9, G9, by omega, by go_num, Lib.hid (M9.eq (by rw [HSJ.out]; unfold stepE; rw [if_pos (.inl HEK.out)])), Lib.hid (FR.out.trans F9), Lib.hid (FR0.out.trans F9)⟩, by simp [intOf]; omega⟩
      by_cases k5 : ek = 5
      · subst k5
        go_wp2_with (go_at_call 146; refine (spread_any _ k a d HI.out HO.out HWj.out MR.out hke haF).mono ?_; intro e w9 hG9; obtain ⟨O9, G9, rfl, M9, F9⟩ := hG9)
        exact ⟨⟨j + 1, O9, G9, by omega, by go_num, Lib.hid (M9.eq (by rw [HSJ.out]; unfold stepE; rw [if_pos (.inr HEK.out)])), Lib.hid (FR.out.trans F9), Lib.hid (FR0.out.trans F9)⟩, by simp [intOf]; omega⟩
      have k1' : (ek == 1) = false := by simpa using k1
      have k5' : (ek == 5) = false := by simpa using k5
      have HK15 : Hid (¬ ((ge p.es k).k = 1 ∨ (ge p.es k).k = 5)) := by show ¬ _; rw [HEK.out]; omega
      by_cases k2 : ek = 2
      · subst k2
        clear k1 k5
        go_wp2_with (go_at_call 147; refine (enter_any _ k a d HI.out HO.out HWj.out MR.out hke HEK.out haF).mono ?_; intro e w9 hG9; obtain ⟨O9, G9, rfl, M9, F9⟩ := hG9)
        exact ⟨⟨j + 1, O9, G9, by omega, by go_num, Lib.hid (M9.eq (by rw [HSJ.out]; unfold stepE; rw [if_neg HK15.out, if_pos HEK.out])), Lib.hid (FR.out.trans F9), Lib.hid (FR0.out.trans F9)⟩, by simp [intOf]; omega⟩
      have k2' : (ek == 2) = false := by simpa using k2
      have HK2 : Hid (¬ (ge p.es k).k = 2) := by show ¬ _; rw [HEK.out]; exact k2
      clear k1 k5 k2
      go_wp2_with fail
      exact ⟨⟨j + 1, O1, G1, by omega, by go_num, Lib.hid (MR.out.eq (by rw [HSJ.out]; unfold stepE; rw [if_neg HK15.out, if_neg HK2.out])), FR, FR0⟩, by simp [intOf]; omega⟩
end Go.Proofs.Ytffkikhknabddaa
