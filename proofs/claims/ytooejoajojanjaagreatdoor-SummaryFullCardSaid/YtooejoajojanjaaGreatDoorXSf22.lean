/- Texts: Zl Zq. -/
import Derived.Test.YtooejoajojanjaaGreatDoorXSf21
import Derived.Test.YtooejoajojanjaaGreatDoorXSf05
namespace Go.Df.If
theorem stepEX_wf {p : Px} (ho : OkX p) {a d : Nat} (ha : a < p.F.toNat) {n : Nat} : ∀ k ∈ outL p.toPb n, ∀ t, Wf p.toPb t → Wf p.toPb (stepEX p a d t k) := fun k hk t ht => by
 unfold stepEX
 split
 · exact spread_wf ho.ok (outL_mem.1 hk).1 ha ht
 · split
   · rename_i hk2
     refine fold_keep (Q := Wf p.toPb) _ t (fun q hq u hu => ?_) ht
     have h1 := ho.ok.pair (by rw [ho.ok.len]; exact (outL_mem.1 hk).1) (mem_froms.1 hq).1
     exact enter1X_wf ho (outL_mem.1 hk).1 hk2 ha (by omega) hu
   · exact ht
theorem seed1_wf {p : Pb} (ho : Ok p) {n : Nat} (hn : n < p.ns.length) : ∀ x ∈ seedL p n, ∀ t, Wf p t → Wf p (t.add n 0 x.f.toNat) := fun x hx t ht => by
 have := ho.seed (seedL_mem.1 hx).1
 have := ho.f1
 exact ht.add hn (by omega) (by omega)
end Go.Df.If
namespace Go.Proofs.YtooejoajojanjaaGreatDoor
open Go.RowKit Go.Df Go.Df.If
attribute [local go_sem ↓] Go.wp_at_zero Go.wp_at_succ
set_option maxRecDepth 100000 in
set_option maxHeartbeats 100000000 in
theorem tstep_any {p : Px} {K : Kn} {w0 : World} {b : Nat} {O : Nat → Prop} {G : Gh} {s : St} (w : World) (n a d : Nat) (hI : Inp p.toPb K w0) (hox : OkX p) (hw : Wf p.toPb s) (hm : Mem p.toPb K w0 b O G w s) (hkx : KnX p K w0 O w) (hn : n < p.ns.length) (haF : a < p.F.toNat) :
   Calls Tryz.prog 92 #[.pointer (some ⟨b, 0, none⟩), .int .i64 n, .int .i64 a, .int .i64 d] w (GetMem p.toPb K w0 b O w (stepX p n a d s)) := by
 have ho := hox.ok
 have HOX := Lib.hid hox
 have HKX := Lib.hid hkx
 have hqm := fun w r => run_eql_map_nil (P := Tryz.prog) w 96 3 30 r Tryz.mapIS
 clear hox hkx
 have hF2 : p.F.toNat ≤ 1024 := by have := ho.f2; omega
 have hE2 : p.es.length ≤ 32768 := (sup_parts ho.sup).2.1
 have hN2 : p.ns.length ≤ 8192 := (sup_parts ho.sup).1
 have HN1 := Lib.hid hI.nd.1.symm
 have hn1 : n < K.n1 := by rw [HN1.out]; exact hn
 have hn1' : (n : Int) < (K.n1 : Int) := by omega
 have HM := Lib.hid hm
 have HW := Lib.hid hw
 have HI := Lib.hid hI
 have HO := Lib.hid ho
 by_cases hz : a = 0 ∧ d = 0
 · obtain ⟨rfl, rfl⟩ := hz
   have B0 := hm.box
   unfold sbox at B0
   have ⟨LB, CB, FB⟩ := B0
   obtain ⟨A5, n5, c5, r5, hs5⟩ := hm.seeds.2 n hn1
   have hrs := hm.seeds.1.1
   have HS5 := Lib.hid hs5
   have hn5 : n5 = (seedL p.toPb n).length := by have := hs5.1.1.1; rw [List.length_map] at this; exact this.symm
   have HN5 := Lib.hid hn5
   have hn5b : n5 ≤ c5 ∧ c5 ≤ 9223372036854775807 := ⟨hs5.1.2.1, hs5.1.2.2.1⟩
   have h5a := hn5b.1
   have h5b := hn5b.2
   clear hm hw hI ho hs5 hn5 hn5b
   go_enter Tryz.func92, Tryz.ntmps92
   go_wp2_with fail
   go_loopw [27] (fun s27 wr => ∃ (j : Nat) (O' : Nat → Prop) (G' : Gh), j ≤ n5 ∧ s27 = .int .i64 j ∧ Hid (Mem p.toPb K w0 b O' G' wr (upTo (fun s x => s.add n 0 x.f.toNat) (seedL p.toPb n) s j)) ∧ Hid (Fx O O' w wr)) (fun s27 _ => n5 - (intOf s27).toNat)
   case atStart => exact ⟨0, O, G, Nat.zero_le _, rfl, by rw [upTo_zero]; exact HM, Lib.hid (Fx.refl _ _)⟩
   case round =>
   clear CB FB B0 LB r5 hrs HM
   obtain ⟨j, OT, GT, hj, rfl, MT, FT⟩ := hrel
   have HW1 := Lib.hid (upTo_keep (Q := Wf p.toPb) (s := s) (l := seedL p.toPb n) (f := fun s x => s.add n 0 x.f.toNat) j (seed1_wf HO.out hn) HW.out)
   by_cases hlt : j < n5
   · obtain ⟨b5, o5, rfl, hl5, hc5⟩ := (HS5.out.fx FT.out).1.1.2 (by omega)
     have hj5 : j < (seedL p.toPb n).length := by rw [← HN5.out]; exact hlt
     have r5 := hc5 j hlt
     have hmm := seedL_mem.1 (List.getElem_mem hj5)
     have hsd := HO.out.seed hmm.1
     obtain ⟨f, hf⟩ := Int.eq_ofNat_of_zero_le (show 0 ≤ ((seedL p.toPb n)[j]).f by omega)
     rw [gi_lt (by rw [List.length_map]; exact hj5), List.getElem_map, hf] at r5
     have hfF : f < p.F.toNat := by omega
     have hj1 : (j : Int) < (n5 : Int) := by omega
     have HSJ : Hid (upTo (fun s x => s.add n 0 x.f.toNat) (seedL p.toPb n) s (j + 1) = (upTo (fun s x => s.add n 0 x.f.toNat) (seedL p.toPb n) s j).add n 0 f) := by
       show _ = _
       rw [upTo_succ _ _ _ hj5, hf, Int.toNat_natCast]
     clear hf hmm hsd hc5
     go_wp2_with (go_at_call 51; refine (add_any _ n 0 f HI.out HO.out HW1.out MT.out hn haF hfF).mono ?_; intro e w9 hG9; obtain ⟨O9, G9, rfl, M9, F9⟩ := hG9)
     exact ⟨⟨j + 1, O9, G9, by omega, by go_num, Lib.hid (M9.eq HSJ.out.symm), Lib.hid (FT.out.trans F9)⟩, by simp [intOf]; omega⟩
   obtain rfl : j = n5 := by omega
   obtain ⟨t1, ht1⟩ : ∃ t1, t1 = stepA p.toPb n 0 0 s := ⟨_, rfl⟩
   have HT1 := Lib.hid ht1
   have HEQ : Hid (upTo (fun s x => s.add n 0 x.f.toNat) (seedL p.toPb n) s j = t1) := by show _ = _; rw [HT1.out, HN5.out, upTo_all]; unfold stepA; rw [if_pos ⟨rfl, rfl⟩]
   rw [HEQ.out] at MT HW1
   clear ht1 HEQ HS5 hlt
   rename World => wt
   have BT := MT.out.box
   unfold sbox at BT
   have ⟨LT, CT, FTb⟩ := BT
   obtain ⟨A6, n6, c6, r6, hs6⟩ := MT.out.out.2 n hn1
   have hro := MT.out.out.1.1
   have HS6 := Lib.hid hs6
   have hn6 : n6 = (outL p.toPb n).length := by have := hs6.1.1.1; rw [ofNats_len] at this; exact this.symm
   have hn6b : n6 ≤ 32768 := by
     have h1 : (outL p.toPb n).length ≤ (List.range p.es.length).length := List.length_filter_le _ _
     rw [List.length_range] at h1
     omega
   have HN6 := Lib.hid hn6
   clear hs6 hn6
   go_wp2_with fail
   go_loopw [44] (fun s44 wr => ∃ (j : Nat) (O' : Nat → Prop) (G' : Gh), j ≤ n6 ∧ s44 = .int .i64 j ∧ Hid (Mem p.toPb K w0 b O' G' wr (upTo (stepEX p 0 0) (outL p.toPb n) t1 j)) ∧ Hid (Fx O O' w wr) ∧ Hid (Fx OT O' wt wr)) (fun s44 _ => n6 - (intOf s44).toNat)
   case atStart => exact ⟨0, OT, GT, Nat.zero_le _, rfl, by rw [upTo_zero]; exact MT, FT, Lib.hid (Fx.refl _ _)⟩
   case round =>
   rename World => wr
   clear MT FT CT FTb r6 hro
   obtain ⟨j, O1, G1, hj, rfl, MR, FR, FR0⟩ := hrel
   have BR := MR.out.box
   unfold sbox at BR
   have ⟨LR, CR, FRb⟩ := BR
   have HWj := Lib.hid (upTo_keep (Q := Wf p.toPb) (s := t1) (l := outL p.toPb n) (f := stepEX p 0 0) j (stepEX_wf HOX.out haF) HW1.out)
   by_cases hlt : j < n6
   case neg =>
     obtain rfl : j = n6 := by omega
     have HEND : Hid (upTo (stepEX p 0 0) (outL p.toPb n) t1 j = (outL p.toPb n).foldl (stepEX p 0 0) (stepA p.toPb n 0 0 s)) := by show _ = _; rw [HN6.out, upTo_all, HT1.out]
     rw [HEND.out] at MR HWj
     obtain ⟨b1, o1, e1, hl1, hc1⟩ := HI.out.nd.2 (by omega)
     have q1 : wr.cell? ⟨b1, o1 + n * 3 + 1, none⟩ = some (.int .i64 (gn p.ns n).k) := (MR.out.low.cell (p := ⟨b1, _, none⟩) hl1).trans (hc1 n hn1).2.1
     have hl1r : b1 < wr.heap.size := Nat.lt_of_lt_of_le hl1 MR.out.low.size
     obtain ⟨nk, hnk⟩ : ∃ nk, (gn p.ns n).k = nk := ⟨_, rfl⟩
     rw [hnk] at q1
     have HNK := Lib.hid hnk
     clear hnk hc1 hl1
     by_cases hkn : p.kn = none
     · have BK := MR.out.box
       unfold sbox at BK
       rw [HKX.out.no hkn] at BK
       have ⟨LBK, CBK, FBK⟩ := BK
       have HKN := Lib.hid hkn
       clear hkn CR FRb
       by_cases h3 : nk = 3
       · subst h3
         go_wp2_with (go_at_call 136; refine (leave_any _ n 0 0 HI.out HO.out HWj.out MR.out hn (by omega)).mono ?_; intro e w9 hG9; obtain ⟨O9, G9, rfl, M9, F9⟩ := hG9)
         go_end0
         exact ⟨O9, G9, rfl, M9.eq (by unfold stepX; rw [if_pos ⟨HKN.out, .inl HNK.out⟩]), FR.out.trans F9⟩
       · by_cases h4 : nk = 4
         · subst h4
           go_wp2_with (go_at_call 136; refine (leave_any _ n 0 0 HI.out HO.out HWj.out MR.out hn (by omega)).mono ?_; intro e w9 hG9; obtain ⟨O9, G9, rfl, M9, F9⟩ := hG9)
           go_end0
           exact ⟨O9, G9, rfl, M9.eq (by unfold stepX; rw [if_pos ⟨HKN.out, .inr HNK.out⟩]), FR.out.trans F9⟩
         · have h3' : (nk == 3) = false := by simpa using h3
           have h4' : (nk == 4) = false := by simpa using h4
           have HK34 : Hid (¬ (p.kn = none ∧ ((gn p.ns n).k = 3 ∨ (gn p.ns n).k = 4))) := by show ¬ _; rw [HNK.out]; rintro ⟨-, h9⟩; omega
           clear h3 h4
           go_wp2_with fail
           go_end0
           exact ⟨O1, G1, rfl, MR.out.eq (by unfold stepX; rw [if_neg HK34.out]), FR.out⟩
     · obtain ⟨L, hL⟩ : ∃ L, p.kn = some L := by
         cases h : p.kn with
         | none => exact absurd h hkn
         | some L => exact ⟨L, rfl⟩
       obtain ⟨kb, -, -, hkv, -⟩ := HKX.out.yes L hL
       have BK := MR.out.box
       unfold sbox at BK
       rw [hkv] at BK
       have ⟨LBK, CBK, FBK⟩ := BK
       have HK34 : Hid (¬ (p.kn = none ∧ ((gn p.ns n).k = 3 ∨ (gn p.ns n).k = 4))) := by show ¬ _; rintro ⟨h9, -⟩; exact hkn h9
       clear hkv hL hkn CR FRb
       go_wp2_with fail
       go_end0
       exact ⟨O1, G1, rfl, MR.out.eq (by unfold stepX; rw [if_neg HK34.out]), FR.out⟩
   obtain ⟨b6, o6, rfl, hl6, hj6, r6⟩ := sin_at (HS6.out.fx FR0.out) hlt
   obtain ⟨k, hk⟩ : ∃ k, (outL p.toPb n)[j] = k := ⟨_, rfl⟩
   rw [hk] at r6
   have hkL : k ∈ outL p.toPb n := by rw [← hk]; exact List.getElem_mem hj6
   have hke : k < p.es.length := (outL_mem.1 hkL).1
   have hj1 : (j : Int) < (n6 : Int) := by omega
   have HSJ : Hid (upTo (stepEX p 0 0) (outL p.toPb n) t1 (j + 1) = stepEX p 0 0 (upTo (stepEX p 0 0) (outL p.toPb n) t1 j) k) := by
     show _ = _
     rw [upTo_succ _ _ _ hj6, hk]
   obtain ⟨t2, ht2⟩ : ∃ t2, t2 = upTo (stepEX p 0 0) (outL p.toPb n) t1 j := ⟨_, rfl⟩
   rw [← ht2] at MR HWj HSJ
   obtain ⟨b2, o2, ea, eb, -, e2, -, hl2, hk2, hea, heb, hea2, heb2, -, -, r2c, -, -⟩ := HI.out.edge HO.out MR.out.low hke
   obtain ⟨ek, hek⟩ : ∃ x, (ge p.es k).k = x := ⟨_, rfl⟩
   rw [hek] at r2c
   have HEK := Lib.hid hek
   clear hk ht2 hkL hea heb hek
   by_cases k1 : ek = 1
   · subst k1
     go_wp2_with (go_at_call 134; refine (spread_any _ k 0 0 HI.out HO.out HWj.out MR.out hke haF).mono ?_; intro e w9 hG9; obtain ⟨O9, G9, rfl, M9, F9⟩ := hG9)
     exact ⟨⟨j + 1, O9, G9, by omega, by go_num, Lib.hid (M9.eq (by rw [HSJ.out]; unfold stepEX; rw [if_pos (.inl HEK.out)])), Lib.hid (FR.out.trans F9), Lib.hid (FR0.out.trans F9)⟩, by simp [intOf]; omega⟩
   by_cases k5 : ek = 5
   · subst k5
     go_wp2_with (go_at_call 134; refine (spread_any _ k 0 0 HI.out HO.out HWj.out MR.out hke haF).mono ?_; intro e w9 hG9; obtain ⟨O9, G9, rfl, M9, F9⟩ := hG9)
     exact ⟨⟨j + 1, O9, G9, by omega, by go_num, Lib.hid (M9.eq (by rw [HSJ.out]; unfold stepEX; rw [if_pos (.inr HEK.out)])), Lib.hid (FR.out.trans F9), Lib.hid (FR0.out.trans F9)⟩, by simp [intOf]; omega⟩
   have k1' : (ek == 1) = false := by simpa using k1
   have k5' : (ek == 5) = false := by simpa using k5
   have HK15 : Hid (¬ ((ge p.es k).k = 1 ∨ (ge p.es k).k = 5)) := by show ¬ _; rw [HEK.out]; omega
   by_cases k2 : ek = 2
   · subst k2
     clear k1 k5
     go_wp2_with (go_at_call 135; refine (enter_any _ k 0 0 HI.out HOX.out HWj.out MR.out (HKX.out.fx FR.out) hke HEK.out haF).mono ?_; intro e w9 hG9; obtain ⟨O9, G9, rfl, M9, F9⟩ := hG9)
     exact ⟨⟨j + 1, O9, G9, by omega, by go_num, Lib.hid (M9.eq (by rw [HSJ.out]; unfold stepEX; rw [if_neg HK15.out, if_pos HEK.out])), Lib.hid (FR.out.trans F9), Lib.hid (FR0.out.trans F9)⟩, by simp [intOf]; omega⟩
   have k2' : (ek == 2) = false := by simpa using k2
   have HK2 : Hid (¬ (ge p.es k).k = 2) := by show ¬ _; rw [HEK.out]; exact k2
   clear k1 k5 k2
   go_wp2_with fail
   exact ⟨⟨j + 1, O1, G1, by omega, by go_num, Lib.hid (MR.out.eq (by rw [HSJ.out]; unfold stepEX; rw [if_neg HK15.out, if_neg HK2.out])), FR, FR0⟩, by simp [intOf]; omega⟩
 · have B0 := hm.box
   unfold sbox at B0
   have ⟨LB, CB, FB⟩ := B0
   have MT := HM
   have FT : Hid (Fx O O w w) := Lib.hid (Fx.refl _ _)
   obtain ⟨OT, hOT⟩ : ∃ OT, OT = O := ⟨_, rfl⟩
   obtain ⟨GT, hGT⟩ : ∃ GT, GT = G := ⟨_, rfl⟩
   obtain ⟨t1, ht1⟩ : ∃ t1, t1 = stepA p.toPb n a d s := ⟨_, rfl⟩
   have HT1 := Lib.hid ht1
   have HTS : Hid (s = t1) := by show _ = _; rw [HT1.out]; unfold stepA; rw [if_neg hz]
   have HW1 : Hid (Wf p.toPb t1) := Lib.hid (by rw [← HTS.out]; exact HW.out)
   have MT : Hid (Mem p.toPb K w0 b OT GT w t1) := Lib.hid (by rw [← HTS.out, hOT, hGT]; exact HM.out)
   have FT : Hid (Fx O OT w w) := Lib.hid (by rw [hOT]; exact Fx.refl _ _)
   have z1 : (if (a : Int) = 0 then decide ((d : Int) = 0) else false) = false := by
     by_cases h1 : a = 0
     · rw [if_pos (by omega)]; simp; omega
     · rw [if_neg (by omega)]
   clear hOT hGT ht1 hm hw hI ho
   by_cases ha0 : a = 0
   · subst ha0
     have hd0 : ((d : Int) == 0) = false := by simp; omega
     have hd1 : (d == 0) = false := by simp; omega
     clear hz z1
     go_enter Tryz.func92, Tryz.ntmps92
     go_upto_region 6 with fail
     have BT := MT.out.box
     unfold sbox at BT
     have ⟨LT, CT, FTb⟩ := BT
     obtain ⟨A6, n6, c6, r6, hs6⟩ := MT.out.out.2 n hn1
     have hro := MT.out.out.1.1
     have HS6 := Lib.hid hs6
     have hn6 : n6 = (outL p.toPb n).length := by have := hs6.1.1.1; rw [ofNats_len] at this; exact this.symm
     have hn6b : n6 ≤ 32768 := by
       have h1 : (outL p.toPb n).length ≤ (List.range p.es.length).length := List.length_filter_le _ _
       rw [List.length_range] at h1
       omega
     have HN6 := Lib.hid hn6
     clear hs6 hn6
     go_wp2_with fail
     go_loopw [44] (fun s44 wr => ∃ (j : Nat) (O' : Nat → Prop) (G' : Gh), j ≤ n6 ∧ s44 = .int .i64 j ∧ Hid (Mem p.toPb K w0 b O' G' wr (upTo (stepEX p 0 d) (outL p.toPb n) t1 j)) ∧ Hid (Fx O O' w wr) ∧ Hid (Fx OT O' w wr)) (fun s44 _ => n6 - (intOf s44).toNat)
     case atStart => exact ⟨0, OT, GT, Nat.zero_le _, rfl, by rw [upTo_zero]; exact MT, FT, Lib.hid (Fx.refl _ _)⟩
     case round =>
     rename World => wr
     clear MT FT CT FTb r6 hro
     obtain ⟨j, O1, G1, hj, rfl, MR, FR, FR0⟩ := hrel
     have BR := MR.out.box
     unfold sbox at BR
     have ⟨LR, CR, FRb⟩ := BR
     have HWj := Lib.hid (upTo_keep (Q := Wf p.toPb) (s := t1) (l := outL p.toPb n) (f := stepEX p 0 d) j (stepEX_wf HOX.out haF) HW1.out)
     by_cases hlt : j < n6
     case neg =>
       obtain rfl : j = n6 := by omega
       have HEND : Hid (upTo (stepEX p 0 d) (outL p.toPb n) t1 j = (outL p.toPb n).foldl (stepEX p 0 d) (stepA p.toPb n 0 d s)) := by show _ = _; rw [HN6.out, upTo_all, HT1.out]
       rw [HEND.out] at MR HWj
       obtain ⟨b1, o1, e1, hl1, hc1⟩ := HI.out.nd.2 (by omega)
       have q1 : wr.cell? ⟨b1, o1 + n * 3 + 1, none⟩ = some (.int .i64 (gn p.ns n).k) := (MR.out.low.cell (p := ⟨b1, _, none⟩) hl1).trans (hc1 n hn1).2.1
       have hl1r : b1 < wr.heap.size := Nat.lt_of_lt_of_le hl1 MR.out.low.size
       obtain ⟨nk, hnk⟩ : ∃ nk, (gn p.ns n).k = nk := ⟨_, rfl⟩
       rw [hnk] at q1
       have HNK := Lib.hid hnk
       clear hnk hc1 hl1
       by_cases hkn : p.kn = none
       · have BK := MR.out.box
         unfold sbox at BK
         rw [HKX.out.no hkn] at BK
         have ⟨LBK, CBK, FBK⟩ := BK
         have HKN := Lib.hid hkn
         clear hkn CR FRb
         by_cases h3 : nk = 3
         · subst h3
           go_wp2_with (go_at_call 136; refine (leave_any _ n 0 d HI.out HO.out HWj.out MR.out hn (by omega)).mono ?_; intro e w9 hG9; obtain ⟨O9, G9, rfl, M9, F9⟩ := hG9)
           go_end0
           exact ⟨O9, G9, rfl, M9.eq (by unfold stepX; rw [if_pos ⟨HKN.out, .inl HNK.out⟩]), FR.out.trans F9⟩
         · by_cases h4 : nk = 4
           · subst h4
             go_wp2_with (go_at_call 136; refine (leave_any _ n 0 d HI.out HO.out HWj.out MR.out hn (by omega)).mono ?_; intro e w9 hG9; obtain ⟨O9, G9, rfl, M9, F9⟩ := hG9)
             go_end0
             exact ⟨O9, G9, rfl, M9.eq (by unfold stepX; rw [if_pos ⟨HKN.out, .inr HNK.out⟩]), FR.out.trans F9⟩
           · have h3' : (nk == 3) = false := by simpa using h3
             have h4' : (nk == 4) = false := by simpa using h4
             have HK34 : Hid (¬ (p.kn = none ∧ ((gn p.ns n).k = 3 ∨ (gn p.ns n).k = 4))) := by show ¬ _; rw [HNK.out]; rintro ⟨-, h9⟩; omega
             clear h3 h4
             go_wp2_with fail
             go_end0
             exact ⟨O1, G1, rfl, MR.out.eq (by unfold stepX; rw [if_neg HK34.out]), FR.out⟩
       · obtain ⟨L, hL⟩ : ∃ L, p.kn = some L := by
           cases h : p.kn with
           | none => exact absurd h hkn
           | some L => exact ⟨L, rfl⟩
         obtain ⟨kb, -, -, hkv, -⟩ := HKX.out.yes L hL
         have BK := MR.out.box
         unfold sbox at BK
         rw [hkv] at BK
         have ⟨LBK, CBK, FBK⟩ := BK
         have HK34 : Hid (¬ (p.kn = none ∧ ((gn p.ns n).k = 3 ∨ (gn p.ns n).k = 4))) := by show ¬ _; rintro ⟨h9, -⟩; exact hkn h9
         clear hkv hL hkn CR FRb
         go_wp2_with fail
         go_end0
         exact ⟨O1, G1, rfl, MR.out.eq (by unfold stepX; rw [if_neg HK34.out]), FR.out⟩
     obtain ⟨b6, o6, rfl, hl6, hj6, r6⟩ := sin_at (HS6.out.fx FR0.out) hlt
     obtain ⟨k, hk⟩ : ∃ k, (outL p.toPb n)[j] = k := ⟨_, rfl⟩
     rw [hk] at r6
     have hkL : k ∈ outL p.toPb n := by rw [← hk]; exact List.getElem_mem hj6
     have hke : k < p.es.length := (outL_mem.1 hkL).1
     have hj1 : (j : Int) < (n6 : Int) := by omega
     have HSJ : Hid (upTo (stepEX p 0 d) (outL p.toPb n) t1 (j + 1) = stepEX p 0 d (upTo (stepEX p 0 d) (outL p.toPb n) t1 j) k) := by
       show _ = _
       rw [upTo_succ _ _ _ hj6, hk]
     obtain ⟨t2, ht2⟩ : ∃ t2, t2 = upTo (stepEX p 0 d) (outL p.toPb n) t1 j := ⟨_, rfl⟩
     rw [← ht2] at MR HWj HSJ
     obtain ⟨b2, o2, ea, eb, -, e2, -, hl2, hk2, hea, heb, hea2, heb2, -, -, r2c, -, -⟩ := HI.out.edge HO.out MR.out.low hke
     obtain ⟨ek, hek⟩ : ∃ x, (ge p.es k).k = x := ⟨_, rfl⟩
     rw [hek] at r2c
     have HEK := Lib.hid hek
     clear hk ht2 hkL hea heb hek
     by_cases k1 : ek = 1
     · subst k1
       go_wp2_with (go_at_call 134; refine (spread_any _ k 0 d HI.out HO.out HWj.out MR.out hke haF).mono ?_; intro e w9 hG9; obtain ⟨O9, G9, rfl, M9, F9⟩ := hG9)
       exact ⟨⟨j + 1, O9, G9, by omega, by go_num, Lib.hid (M9.eq (by rw [HSJ.out]; unfold stepEX; rw [if_pos (.inl HEK.out)])), Lib.hid (FR.out.trans F9), Lib.hid (FR0.out.trans F9)⟩, by simp [intOf]; omega⟩
     by_cases k5 : ek = 5
     · subst k5
       go_wp2_with (go_at_call 134; refine (spread_any _ k 0 d HI.out HO.out HWj.out MR.out hke haF).mono ?_; intro e w9 hG9; obtain ⟨O9, G9, rfl, M9, F9⟩ := hG9)
       exact ⟨⟨j + 1, O9, G9, by omega, by go_num, Lib.hid (M9.eq (by rw [HSJ.out]; unfold stepEX; rw [if_pos (.inr HEK.out)])), Lib.hid (FR.out.trans F9), Lib.hid (FR0.out.trans F9)⟩, by simp [intOf]; omega⟩
     have k1' : (ek == 1) = false := by simpa using k1
     have k5' : (ek == 5) = false := by simpa using k5
     have HK15 : Hid (¬ ((ge p.es k).k = 1 ∨ (ge p.es k).k = 5)) := by show ¬ _; rw [HEK.out]; omega
     by_cases k2 : ek = 2
     · subst k2
       clear k1 k5
       go_wp2_with (go_at_call 135; refine (enter_any _ k 0 d HI.out HOX.out HWj.out MR.out (HKX.out.fx FR.out) hke HEK.out haF).mono ?_; intro e w9 hG9; obtain ⟨O9, G9, rfl, M9, F9⟩ := hG9)
       exact ⟨⟨j + 1, O9, G9, by omega, by go_num, Lib.hid (M9.eq (by rw [HSJ.out]; unfold stepEX; rw [if_neg HK15.out, if_pos HEK.out])), Lib.hid (FR.out.trans F9), Lib.hid (FR0.out.trans F9)⟩, by simp [intOf]; omega⟩
     have k2' : (ek == 2) = false := by simpa using k2
     have HK2 : Hid (¬ (ge p.es k).k = 2) := by show ¬ _; rw [HEK.out]; exact k2
     clear k1 k5 k2
     go_wp2_with fail
     exact ⟨⟨j + 1, O1, G1, by omega, by go_num, Lib.hid (MR.out.eq (by rw [HSJ.out]; unfold stepEX; rw [if_neg HK15.out, if_neg HK2.out])), FR, FR0⟩, by simp [intOf]; omega⟩
   · have ha1 : ((a : Int) == 0) = false := by simp; omega
     have ha2 : (a == 0) = false := by simp; omega
     clear hz z1 ha0
     go_enter Tryz.func92, Tryz.ntmps92
     go_upto_region 6 with fail
     have BT := MT.out.box
     unfold sbox at BT
     have ⟨LT, CT, FTb⟩ := BT
     obtain ⟨A6, n6, c6, r6, hs6⟩ := MT.out.out.2 n hn1
     have hro := MT.out.out.1.1
     have HS6 := Lib.hid hs6
     have hn6 : n6 = (outL p.toPb n).length := by have := hs6.1.1.1; rw [ofNats_len] at this; exact this.symm
     have hn6b : n6 ≤ 32768 := by
       have h1 : (outL p.toPb n).length ≤ (List.range p.es.length).length := List.length_filter_le _ _
       rw [List.length_range] at h1
       omega
     have HN6 := Lib.hid hn6
     clear hs6 hn6
     go_wp2_with fail
     go_loopw [44] (fun s44 wr => ∃ (j : Nat) (O' : Nat → Prop) (G' : Gh), j ≤ n6 ∧ s44 = .int .i64 j ∧ Hid (Mem p.toPb K w0 b O' G' wr (upTo (stepEX p a d) (outL p.toPb n) t1 j)) ∧ Hid (Fx O O' w wr) ∧ Hid (Fx OT O' w wr)) (fun s44 _ => n6 - (intOf s44).toNat)
     case atStart => exact ⟨0, OT, GT, Nat.zero_le _, rfl, by rw [upTo_zero]; exact MT, FT, Lib.hid (Fx.refl _ _)⟩
     case round =>
     rename World => wr
     clear MT FT CT FTb r6 hro
     obtain ⟨j, O1, G1, hj, rfl, MR, FR, FR0⟩ := hrel
     have BR := MR.out.box
     unfold sbox at BR
     have ⟨LR, CR, FRb⟩ := BR
     have HWj := Lib.hid (upTo_keep (Q := Wf p.toPb) (s := t1) (l := outL p.toPb n) (f := stepEX p a d) j (stepEX_wf HOX.out haF) HW1.out)
     by_cases hlt : j < n6
     case neg =>
       obtain rfl : j = n6 := by omega
       have HEND : Hid (upTo (stepEX p a d) (outL p.toPb n) t1 j = (outL p.toPb n).foldl (stepEX p a d) (stepA p.toPb n a d s)) := by show _ = _; rw [HN6.out, upTo_all, HT1.out]
       rw [HEND.out] at MR HWj
       obtain ⟨b1, o1, e1, hl1, hc1⟩ := HI.out.nd.2 (by omega)
       have q1 : wr.cell? ⟨b1, o1 + n * 3 + 1, none⟩ = some (.int .i64 (gn p.ns n).k) := (MR.out.low.cell (p := ⟨b1, _, none⟩) hl1).trans (hc1 n hn1).2.1
       have hl1r : b1 < wr.heap.size := Nat.lt_of_lt_of_le hl1 MR.out.low.size
       obtain ⟨nk, hnk⟩ : ∃ nk, (gn p.ns n).k = nk := ⟨_, rfl⟩
       rw [hnk] at q1
       have HNK := Lib.hid hnk
       clear hnk hc1 hl1
       by_cases hkn : p.kn = none
       · have BK := MR.out.box
         unfold sbox at BK
         rw [HKX.out.no hkn] at BK
         have ⟨LBK, CBK, FBK⟩ := BK
         have HKN := Lib.hid hkn
         clear hkn CR FRb
         by_cases h3 : nk = 3
         · subst h3
           go_wp2_with (go_at_call 136; refine (leave_any _ n a d HI.out HO.out HWj.out MR.out hn (by omega)).mono ?_; intro e w9 hG9; obtain ⟨O9, G9, rfl, M9, F9⟩ := hG9)
           go_end0
           exact ⟨O9, G9, rfl, M9.eq (by unfold stepX; rw [if_pos ⟨HKN.out, .inl HNK.out⟩]), FR.out.trans F9⟩
         · by_cases h4 : nk = 4
           · subst h4
             go_wp2_with (go_at_call 136; refine (leave_any _ n a d HI.out HO.out HWj.out MR.out hn (by omega)).mono ?_; intro e w9 hG9; obtain ⟨O9, G9, rfl, M9, F9⟩ := hG9)
             go_end0
             exact ⟨O9, G9, rfl, M9.eq (by unfold stepX; rw [if_pos ⟨HKN.out, .inr HNK.out⟩]), FR.out.trans F9⟩
           · have h3' : (nk == 3) = false := by simpa using h3
             have h4' : (nk == 4) = false := by simpa using h4
             have HK34 : Hid (¬ (p.kn = none ∧ ((gn p.ns n).k = 3 ∨ (gn p.ns n).k = 4))) := by show ¬ _; rw [HNK.out]; rintro ⟨-, h9⟩; omega
             clear h3 h4
             go_wp2_with fail
             go_end0
             exact ⟨O1, G1, rfl, MR.out.eq (by unfold stepX; rw [if_neg HK34.out]), FR.out⟩
       · obtain ⟨L, hL⟩ : ∃ L, p.kn = some L := by
           cases h : p.kn with
           | none => exact absurd h hkn
           | some L => exact ⟨L, rfl⟩
         obtain ⟨kb, -, -, hkv, -⟩ := HKX.out.yes L hL
         have BK := MR.out.box
         unfold sbox at BK
         rw [hkv] at BK
         have ⟨LBK, CBK, FBK⟩ := BK
         have HK34 : Hid (¬ (p.kn = none ∧ ((gn p.ns n).k = 3 ∨ (gn p.ns n).k = 4))) := by show ¬ _; rintro ⟨h9, -⟩; exact hkn h9
         clear hkv hL hkn CR FRb
         go_wp2_with fail
         go_end0
         exact ⟨O1, G1, rfl, MR.out.eq (by unfold stepX; rw [if_neg HK34.out]), FR.out⟩
     obtain ⟨b6, o6, rfl, hl6, hj6, r6⟩ := sin_at (HS6.out.fx FR0.out) hlt
     obtain ⟨k, hk⟩ : ∃ k, (outL p.toPb n)[j] = k := ⟨_, rfl⟩
     rw [hk] at r6
     have hkL : k ∈ outL p.toPb n := by rw [← hk]; exact List.getElem_mem hj6
     have hke : k < p.es.length := (outL_mem.1 hkL).1
     have hj1 : (j : Int) < (n6 : Int) := by omega
     have HSJ : Hid (upTo (stepEX p a d) (outL p.toPb n) t1 (j + 1) = stepEX p a d (upTo (stepEX p a d) (outL p.toPb n) t1 j) k) := by
       show _ = _
       rw [upTo_succ _ _ _ hj6, hk]
     obtain ⟨t2, ht2⟩ : ∃ t2, t2 = upTo (stepEX p a d) (outL p.toPb n) t1 j := ⟨_, rfl⟩
     rw [← ht2] at MR HWj HSJ
     obtain ⟨b2, o2, ea, eb, -, e2, -, hl2, hk2, hea, heb, hea2, heb2, -, -, r2c, -, -⟩ := HI.out.edge HO.out MR.out.low hke
     obtain ⟨ek, hek⟩ : ∃ x, (ge p.es k).k = x := ⟨_, rfl⟩
     rw [hek] at r2c
     have HEK := Lib.hid hek
     clear hk ht2 hkL hea heb hek
     by_cases k1 : ek = 1
     · subst k1
       go_wp2_with (go_at_call 134; refine (spread_any _ k a d HI.out HO.out HWj.out MR.out hke haF).mono ?_; intro e w9 hG9; obtain ⟨O9, G9, rfl, M9, F9⟩ := hG9)
       exact ⟨⟨j + 1, O9, G9, by omega, by go_num, Lib.hid (M9.eq (by rw [HSJ.out]; unfold stepEX; rw [if_pos (.inl HEK.out)])), Lib.hid (FR.out.trans F9), Lib.hid (FR0.out.trans F9)⟩, by simp [intOf]; omega⟩
     by_cases k5 : ek = 5
     · subst k5
       go_wp2_with (go_at_call 134; refine (spread_any _ k a d HI.out HO.out HWj.out MR.out hke haF).mono ?_; intro e w9 hG9; obtain ⟨O9, G9, rfl, M9, F9⟩ := hG9)
       exact ⟨⟨j + 1, O9, G9, by omega, by go_num, Lib.hid (M9.eq (by rw [HSJ.out]; unfold stepEX; rw [if_pos (.inr HEK.out)])), Lib.hid (FR.out.trans F9), Lib.hid (FR0.out.trans F9)⟩, by simp [intOf]; omega⟩
     have k1' : (ek == 1) = false := by simpa using k1
     have k5' : (ek == 5) = false := by simpa using k5
     have HK15 : Hid (¬ ((ge p.es k).k = 1 ∨ (ge p.es k).k = 5)) := by show ¬ _; rw [HEK.out]; omega
     by_cases k2 : ek = 2
     · subst k2
       clear k1 k5
       go_wp2_with (go_at_call 135; refine (enter_any _ k a d HI.out HOX.out HWj.out MR.out (HKX.out.fx FR.out) hke HEK.out haF).mono ?_; intro e w9 hG9; obtain ⟨O9, G9, rfl, M9, F9⟩ := hG9)
       exact ⟨⟨j + 1, O9, G9, by omega, by go_num, Lib.hid (M9.eq (by rw [HSJ.out]; unfold stepEX; rw [if_neg HK15.out, if_pos HEK.out])), Lib.hid (FR.out.trans F9), Lib.hid (FR0.out.trans F9)⟩, by simp [intOf]; omega⟩
     have k2' : (ek == 2) = false := by simpa using k2
     have HK2 : Hid (¬ (ge p.es k).k = 2) := by show ¬ _; rw [HEK.out]; exact k2
     clear k1 k5 k2
     go_wp2_with fail
     exact ⟨⟨j + 1, O1, G1, by omega, by go_num, Lib.hid (MR.out.eq (by rw [HSJ.out]; unfold stepEX; rw [if_neg HK15.out, if_neg HK2.out])), FR, FR0⟩, by simp [intOf]; omega⟩
end Go.Proofs.YtooejoajojanjaaGreatDoor
namespace Go.Df
open Go.RowKit
structure ObjT (w : World) (t : Nat → Nat) (g : Nat) (o : Obj) (m : Nat) : Prop where
 heap : w.heap[g]? = some o
 tag : t g = m
theorem ObjT.lt {w : World} {t : Nat → Nat} {g m : Nat} {o : Obj} (h : ObjT w t g o m) : g < w.heap.size := (Array.getElem?_eq_some_iff.1 h.heap).1
theorem ObjT.grow {w w' : World} {t t' : Nat → Nat} {g m : Nat} {o : Obj} (h : ObjT w t g o m) (hg : Grow w t w' t') : ObjT w' t' g o m := ⟨(hg.1.block g h.lt (by simp)).trans h.heap, (hg.2 g h.lt).trans h.tag⟩
theorem ObjT.ne {w : World} {t : Nat → Nat} {g g' m m' : Nat} {o o' : Obj} (h : ObjT w t g o m) (h' : ObjT w t g' o' m') (hm : m ≠ m') : g ≠ g' := fun e => hm (by rw [← h.tag, ← h'.tag, e])
theorem ObjT.new (w : World) (t : Nat → Nat) (o : Obj) (m : Nat) : ObjT (w.alloc o) (Go.Df.mark t w.heap.size m) w.heap.size o m := ⟨heap_alloc_new w o, mark_same _ _ _⟩
theorem ObjT.at {w : World} {t : Nat → Nat} {g m : Nat} {o : Obj} (h : w.heap[g]? = some o) : ObjT w (Go.Df.mark t g m) g o m := ⟨h, mark_same _ _ _⟩
structure Pcs (base : Nat) (oI oR oM oE oP : Obj) (w : World) (t : Nat → Nat) (g2 g4 g6 g8 g10 g12 g17 g19 : Nat) : Prop where
 h2 : ObjT w t g2 oI 1 ∧ base ≤ g2
 h4 : ObjT w t g4 oR 2 ∧ base ≤ g4
 h6 : ObjT w t g6 oR 3 ∧ base ≤ g6
 h8 : ObjT w t g8 oR 4 ∧ base ≤ g8
 h10 : ObjT w t g10 oR 5 ∧ base ≤ g10
 h12 : ObjT w t g12 oM 6 ∧ base ≤ g12
 h17 : ObjT w t g17 oE 7 ∧ base ≤ g17
 h19 : ObjT w t g19 oP 8 ∧ base ≤ g19
theorem Pcs.grow {base : Nat} {oI oR oM oE oP : Obj} {w w' : World} {t t' : Nat → Nat} {g2 g4 g6 g8 g10 g12 g17 g19 : Nat} (h : Pcs base oI oR oM oE oP w t g2 g4 g6 g8 g10 g12 g17 g19) (hg : Grow w t w' t') : Pcs base oI oR oM oE oP w' t' g2 g4 g6 g8 g10 g12 g17 g19 :=
 ⟨⟨h.h2.1.grow hg, h.h2.2⟩, ⟨h.h4.1.grow hg, h.h4.2⟩, ⟨h.h6.1.grow hg, h.h6.2⟩, ⟨h.h8.1.grow hg, h.h8.2⟩, ⟨h.h10.1.grow hg, h.h10.2⟩, ⟨h.h12.1.grow hg, h.h12.2⟩, ⟨h.h17.1.grow hg, h.h17.2⟩, ⟨h.h19.1.grow hg, h.h19.2⟩⟩
end Go.Df
namespace Go.Proofs.YtooejoajojanjaaGreatDoor
open Go.RowKit Go.Df Go.Df.If
attribute [local go_sem ↓] Go.wp_at_zero Go.wp_at_succ
theorem map_info : (Tryz.prog.info? 157).map (fun i => (i.zero, i.size, i.bytes)) = some (some (.map none), 1, 8) := by kernel_rfl
theorem prow_info : (Tryz.prog.info? 28).map (fun i => (i.zero, i.size, i.bytes)) = some (some (.slice none 0 0), 1, 24) := by kernel_rfl
end Go.Proofs.YtooejoajojanjaaGreatDoor
namespace Go.Df
open Go.RowKit
theorem least_exists (P : Nat → Prop) (h : ∃ m, P m) : ∃ m, P m ∧ ∀ m', P m' → m ≤ m' := by
 have hk : ∀ k m, m ≤ k → P m → ∃ m, P m ∧ ∀ m', P m' → m ≤ m' := by
   intro k
   induction k with
   | zero => intro m hm hp; obtain rfl : m = 0 := by omega
             exact ⟨0, hp, fun _ _ => Nat.zero_le _⟩
   | succ k ih =>
     intro m hm hp
     by_cases hx : ∃ m', P m' ∧ m' < m
     · obtain ⟨m', h1, h2⟩ := hx
       exact ih m' (by omega) h1
     · exact ⟨m, hp, fun m' h1 => Nat.le_of_not_lt fun h2 => hx ⟨m', h1, h2⟩⟩
 obtain ⟨m, hm⟩ := h
 exact hk m m (Nat.le_refl _) hm
open Classical in
/-- The least number of which P holds in a world. -/
noncomputable def leastM (P : Nat → World → Prop) (w : World) : Nat := if h : ∃ m, P m w then Classical.choose (least_exists (fun m => P m w) h) else 0
theorem leastM_spec {P : Nat → World → Prop} {w : World} (h : ∃ m, P m w) : P (leastM P w) w := by
 unfold leastM
 rw [dif_pos h]
 exact (Classical.choose_spec (least_exists (fun m => P m w) h)).1
theorem leastM_le {P : Nat → World → Prop} {w : World} {m : Nat} (h : P m w) : leastM P w ≤ m := by
 unfold leastM
 rw [dif_pos ⟨m, h⟩]
 exact (Classical.choose_spec (least_exists (fun m => P m w) ⟨m, h⟩)).2 m h
theorem blk_of_obj {w : World} {g : Nat} {C : List Value} {t : TypeId} (h : w.heap[g]? = some (.cells C.toArray t (0, 0))) : Blk w g C :=
 ⟨(Array.getElem?_eq_some_iff.1 h).1, fun i => by simp [World.cell?, h], fun i => by simp [World.frozen?, h]⟩
def IntA (w : World) (g n : Nat) (f : Nat → Nat) : Prop := g < w.heap.size ∧ (∀ x, x < n → w.cell? ⟨g, x, none⟩ = some (.int .i64 (f x : Nat))) ∧ ∀ x, w.frozen? ⟨g, x, none⟩ = false
theorem IntA.kept {X : List Nat} {w w' : World} {g n : Nat} {f : Nat → Nat} (h : IntA w g n f) (hk : Kept X w w') (hX : g ∉ X) : IntA w' g n f :=
 ⟨Nat.lt_of_lt_of_le h.1 hk.size, fun x hx => (hk.cell g x h.1 hX).trans (h.2.1 x hx), fun x => (hk.frozen g x h.1 hX).trans (h.2.2 x)⟩
theorem IntA.set {w : World} {g n : Nat} {f : Nat → Nat} (h : IntA w g n f) (i y : Nat) {f' : Nat → Nat} (hf : ∀ x, x < n → f' x = if x = i then y else f x) : IntA (w.setCell ⟨g, i, none⟩ (.int .i64 (y : Nat))) g n f' := by
 refine ⟨by simpa [World.setCell] using h.1, fun x hx => ?_, fun x => by simpa using h.2.2 x⟩
 rw [hf x hx]
 by_cases e : x = i
 · subst e; rw [if_pos rfl]; exact set_same (h.2.1 x hx)
 · rw [if_neg e, set_other (.inr (fun h => e h.symm))]; exact h.2.1 x hx
open Classical in
noncomputable def upd2 {α : Type} (f : Nat → Nat → α) (t i : Nat) (x : α) : Nat → Nat → α := fun t' i' => if t' = t ∧ i' = i then x else f t' i'
theorem upd2_at {α : Type} (f : Nat → Nat → α) (t i : Nat) (x : α) : upd2 f t i x t i = x := by simp [upd2]
theorem upd2_ne {α : Type} {f : Nat → Nat → α} {t i t' i' : Nat} {x : α} (h : ¬ (t' = t ∧ i' = i)) : upd2 f t i x t' i' = f t' i' := by simp [upd2, h]
def rsel (a b c d : Nat) (t : Nat) : Nat := match t with
 | 0 => a
 | 1 => b
 | 2 => c
 | _ => d
structure Rws (e : TypeId) (lim : Nat) (w : World) (r : Nat → Nat) (N : Nat) (v : Nat → Nat → Value) (l : Nat → Nat → List Int) : Prop where
 cell : ∀ t i, t < 4 → i < N → w.cell? ⟨r t, i, none⟩ = some (v t i)
 fr : ∀ t i, t < 4 → w.frozen? ⟨r t, i, none⟩ = false
 rlt : ∀ t, t < 4 → r t < lim
 hlim : lim ≤ w.heap.size
 rr : ∀ t t', t < 4 → t' < 4 → r t = r t' → t = t'
 own : ∀ t i, t < 4 → i < N → w.ownsRow lim e 1 (v t i) (l t i).length ((l t i).map (Value.int .i64))
 vv : ∀ t i t' i' x, t < 4 → t' < 4 → i < N → i' < N → (v t i).ownBlock = some x → (v t' i').ownBlock = some x → t = t' ∧ i = i'
variable {e : TypeId} {lim : Nat} {w w1 : World} {r : Nat → Nat} {N : Nat} {v : Nat → Nat → Value} {l : Nat → Nat → List Int}
theorem Rws.kept {X : List Nat} (h : Rws e lim w r N v l) (hk : Kept X w w1) (hX : ∀ x ∈ X, x < lim ∧ ∀ t, t < 4 → x ≠ r t) : Rws e lim w1 r N v l := by
 have hr : ∀ t, t < 4 → r t ∉ X := fun t ht hm => (hX _ hm).2 t ht rfl
 have hrl : ∀ t, t < 4 → r t < w.heap.size := fun t ht => Nat.lt_of_lt_of_le (h.rlt t ht) h.hlim
 exact ⟨fun t i ht hi => (hk.cell (r t) i (hrl t ht) (hr t ht)).trans (h.cell t i ht hi), fun t i ht => (hk.frozen (r t) i (hrl t ht) (hr t ht)).trans (h.fr t i ht), h.rlt, Nat.le_trans h.hlim hk.size, h.rr,
   fun t i ht hi => own_kept2 (h.own t i ht hi) hk (fun g hg hm => by have h1 := own_ge (h.own t i ht hi) hg; have h2 := (hX g hm).1; omega), h.vv⟩
theorem Rws.snoc {t i : Nat} {v' : Value} {l' : List Int} (h : Rws e lim w r N v l) (ht : t < 4) (hi : i < N) (hk : Kept (v t i).ownBlock.toList w w1) (hv : w1.ownsRow lim e 1 v' l'.length (l'.map (Value.int .i64)))
   (hg : ∀ g, v'.ownBlock = some g → (v t i).ownBlock = some g ∨ w.heap.size ≤ g) : Rws e lim (w1.setCell ⟨r t, i, none⟩ v') r N (upd2 v t i v') (upd2 l t i l') := by
 have hrl : ∀ t, t < 4 → r t < w.heap.size := fun t ht => Nat.lt_of_lt_of_le (h.rlt t ht) h.hlim
 have hvr : ∀ t' i' g, t' < 4 → i' < N → (v t' i').ownBlock = some g → ∀ t'', t'' < 4 → g ≠ r t'' := fun t' i' g ht' hi' hg' t'' ht'' e => by
   have h1 := own_ge (h.own t' i' ht' hi') hg'
   have h2 := h.rlt t'' ht''
   omega
 have hrn : ∀ t', t' < 4 → r t' ∉ (v t i).ownBlock.toList := fun t' ht' hm => hvr t i _ ht hi (by simpa using hm) t' ht' rfl
 have hk2 : Kept (r t :: (v t i).ownBlock.toList) w (w1.setCell ⟨r t, i, none⟩ v') := (keptWide hk (fun x hx => List.mem_cons_of_mem _ hx)).set (r t) i v' (.inl (by simp))
 have hv'r : ∀ g, v'.ownBlock = some g → g ≠ r t := fun g hg' => by
   rcases hg g hg' with h1 | h1
   · exact hvr t i g ht hi h1 t ht
   · have := hrl t ht; omega
 refine ⟨fun t' i' ht' hi' => ?_, fun t' i' ht' => ?_, h.rlt, Nat.le_trans h.hlim (by simpa [World.setCell] using hk.size), h.rr, fun t' i' ht' hi' => ?_, fun t1 i1 t2 i2 x h1 h2 h3 h4 h5 h6 => ?_⟩
 · have hc := (hk.cell (r t') i' (hrl t' ht') (hrn t' ht')).trans (h.cell t' i' ht' hi')
   by_cases e1 : t' = t ∧ i' = i
   · obtain ⟨rfl, rfl⟩ := e1
     rw [upd2_at]
     exact set_same hc
   · rw [upd2_ne e1, set_other]
     · exact hc
     · by_cases e2 : t' = t
       · right; intro e3; exact e1 ⟨e2, e3.symm⟩
       · left; intro e3; exact e2 (h.rr t' t ht' ht e3.symm)
 · have := (hk.frozen (r t') i' (hrl t' ht') (hrn t' ht')).trans (h.fr t' i' ht')
   simpa using this
 · by_cases e1 : t' = t ∧ i' = i
   · obtain ⟨rfl, rfl⟩ := e1
     rw [upd2_at, upd2_at]
     exact own_kept2 hv ((Kept.refl [r t'] w1).set (r t') i' v' (.inl (by simp))) (fun g hg' => by simpa using hv'r g hg')
   · rw [upd2_ne e1, upd2_ne e1]
     refine own_kept2 (h.own t' i' ht' hi') hk2 (fun g hg' hm => ?_)
     rcases List.mem_cons.1 hm with h1 | h1
     · exact hvr t' i' g ht' hi' hg' t ht h1
     · exact e1 (h.vv t' i' t i g ht' ht hi' hi hg' (by simpa using h1))
 · by_cases e1 : t1 = t ∧ i1 = i
   · obtain ⟨rfl, rfl⟩ := e1
     rw [upd2_at] at h5
     by_cases e2 : t2 = t1 ∧ i2 = i1
     · exact ⟨e2.1.symm, e2.2.symm⟩
     · rw [upd2_ne e2] at h6
       rcases hg x h5 with h7 | h7
       · exact h.vv t1 i1 t2 i2 x h1 h2 h3 h4 h7 h6
       · have := own_lt2 (h.own t2 i2 h2 h4) h6; omega
   · rw [upd2_ne e1] at h5
     by_cases e2 : t2 = t ∧ i2 = i
     · obtain ⟨rfl, rfl⟩ := e2
       rw [upd2_at] at h6
       rcases hg x h6 with h7 | h7
       · exact h.vv t1 i1 t2 i2 x h1 h2 h3 h4 h5 h7
       · have := own_lt2 (h.own t1 i1 h1 h3) h5; omega
     · rw [upd2_ne e2] at h6
       exact h.vv t1 i1 t2 i2 x h1 h2 h3 h4 h5 h6
namespace If
open Sp
def LK0 (p : Pb) (k i : Nat) : List Int := ofNats ((List.range k).filter fun k => (ge p.es k).a == (i : Int))
def LK1 (p : Pb) (k i : Nat) : List Int := ofNats ((List.range k).filter fun k => (ge p.es k).k == 2 && (ge p.es k).b == (i : Int))
def LK2 (p : Pb) (k i : Nat) : List Int := ofNats ((List.range k).filter fun k => ((ge p.es k).k == 3 || (ge p.es k).k == 4) && (ge p.es k).c == (i : Int))
def LK3 (p : Pb) (j i : Nat) : List Int := ((p.sd.take j).filter fun s => s.n == (i : Int)).map Sd.f
def LK (p : Pb) (k0 k1 k2 j : Nat) (t i : Nat) : List Int :=
 match t with
 | 0 => LK0 p k0 i
 | 1 => LK1 p k1 i
 | 2 => LK2 p k2 i
 | 3 => LK3 p j i
 | _ => []
theorem LK_out {p : Pb} {k1 k2 j k ea : Nat} (h : (ge p.es k).a = (ea : Int)) : LK p (k + 1) k1 k2 j = upd2 (LK p k k1 k2 j) 0 ea (LK p k k1 k2 j 0 ea ++ [(k : Int)]) := by
 funext t i
 by_cases e : t = 0 ∧ i = ea
 · obtain ⟨rfl, rfl⟩ := e
   rw [upd2_at]
   show LK0 p (k + 1) i = LK0 p k i ++ [(k : Int)]
   unfold LK0
   rw [filter_one, if_pos (by simp [h]), ofNats_snoc]
 · rw [upd2_ne e]
   match t, e with
   | 0, e =>
     have e : i ≠ ea := fun h => e ⟨rfl, h⟩
     show LK0 p (k + 1) i = LK0 p k i
     unfold LK0
     rw [filter_one, if_neg (by simp [h]; omega)]
   | 1, _ => rfl
   | 2, _ => rfl
   | 3, _ => rfl
   | _ + 4, _ => rfl
theorem LK_call {p : Pb} {k0 k2 j k eb : Nat} (h2 : (ge p.es k).k = 2) (h : (ge p.es k).b = (eb : Int)) : LK p k0 (k + 1) k2 j = upd2 (LK p k0 k k2 j) 1 eb (LK p k0 k k2 j 1 eb ++ [(k : Int)]) := by
 funext t i
 by_cases e : t = 1 ∧ i = eb
 · obtain ⟨rfl, rfl⟩ := e
   rw [upd2_at]
   show LK1 p (k + 1) i = LK1 p k i ++ [(k : Int)]
   unfold LK1
   rw [filter_one, if_pos (by simp [h, h2]), ofNats_snoc]
 · rw [upd2_ne e]
   match t, e with
   | 1, e =>
     have e : i ≠ eb := fun h => e ⟨rfl, h⟩
     show LK1 p (k + 1) i = LK1 p k i
     unfold LK1
     rw [filter_one, if_neg (by simp [h, h2]; omega)]
   | 0, _ => rfl
   | 2, _ => rfl
   | 3, _ => rfl
   | _ + 4, _ => rfl
theorem LK_nocall {p : Pb} {k0 k2 j k : Nat} (h2 : (ge p.es k).k ≠ 2) : LK p k0 (k + 1) k2 j = LK p k0 k k2 j := by
 funext t i
 match t with
 | 1 =>
   show LK1 p (k + 1) i = LK1 p k i
   unfold LK1
   rw [filter_one, if_neg (by simp [h2])]
 | 0 => rfl
 | 2 => rfl
 | 3 => rfl
 | _ + 4 => rfl
theorem LK_ret {p : Pb} {k0 k1 j k ec : Nat} (h2 : (ge p.es k).k = 3 ∨ (ge p.es k).k = 4) (h : (ge p.es k).c = (ec : Int)) : LK p k0 k1 (k + 1) j = upd2 (LK p k0 k1 k j) 2 ec (LK p k0 k1 k j 2 ec ++ [(k : Int)]) := by
 funext t i
 by_cases e : t = 2 ∧ i = ec
 · obtain ⟨rfl, rfl⟩ := e
   rw [upd2_at]
   show LK2 p (k + 1) i = LK2 p k i ++ [(k : Int)]
   unfold LK2
   rw [filter_one, if_pos (by simp [h, h2]), ofNats_snoc]
 · rw [upd2_ne e]
   match t, e with
   | 2, e =>
     have e : i ≠ ec := fun h => e ⟨rfl, h⟩
     show LK2 p (k + 1) i = LK2 p k i
     unfold LK2
     rw [filter_one, if_neg (by simp [h]; omega)]
   | 0, _ => rfl
   | 1, _ => rfl
   | 3, _ => rfl
   | _ + 4, _ => rfl
theorem LK_noret {p : Pb} {k0 k1 j k : Nat} (h2 : ¬ ((ge p.es k).k = 3 ∨ (ge p.es k).k = 4)) : LK p k0 k1 (k + 1) j = LK p k0 k1 k j := by
 funext t i
 match t with
 | 2 =>
   show LK2 p (k + 1) i = LK2 p k i
   unfold LK2
   rw [filter_one, if_neg (by simp; intro h3; exact absurd h3 h2)]
 | 0 => rfl
 | 1 => rfl
 | 3 => rfl
 | _ + 4 => rfl
theorem LK_seed {p : Pb} {k0 k1 k2 j sn : Nat} (hj : j < p.sd.length) (h : (gd p.sd j).n = (sn : Int)) : LK p k0 k1 k2 (j + 1) = upd2 (LK p k0 k1 k2 j) 3 sn (LK p k0 k1 k2 j 3 sn ++ [(gd p.sd j).f]) := by
 rw [gd_lt hj] at h ⊢
 funext t i
 by_cases e : t = 3 ∧ i = sn
 · obtain ⟨rfl, rfl⟩ := e
   rw [upd2_at]
   show LK3 p (j + 1) i = LK3 p j i ++ _
   unfold LK3
   rw [List.take_succ_eq_append_getElem hj, List.filter_append, List.map_append]
   simp [h]
 · rw [upd2_ne e]
   match t, e with
   | 0, _ => rfl
   | 1, _ => rfl
   | 2, _ => rfl
   | 3, e =>
     have e : i ≠ sn := fun h => e ⟨rfl, h⟩
     show LK3 p (j + 1) i = LK3 p j i
     unfold LK3
     rw [List.take_succ_eq_append_getElem hj, List.filter_append]
     simp [h]
     omega
   | _ + 4, _ => rfl
theorem LK_nil (p : Pb) (t i : Nat) : LK p 0 0 0 0 t i = [] := by
 match t with
 | 0 => rfl
 | 1 => rfl
 | 2 => rfl
 | 3 => rfl
 | _ + 4 => rfl
theorem LK_len {p : Pb} {k0 k1 k2 j m : Nat} (h0 : k0 ≤ m) (h1 : k1 ≤ m) (h2 : k2 ≤ m) (h3 : j ≤ m) (t i : Nat) : (LK p k0 k1 k2 j t i).length ≤ m := by
 have hf : ∀ (f : Nat → Bool) (k : Nat), ((List.range k).filter f).length ≤ k := fun f k => Nat.le_trans (List.length_filter_le _ _) (by simp)
 match t with
 | 0 => show (LK0 p k0 i).length ≤ m; unfold LK0; rw [ofNats_len]; exact Nat.le_trans (hf _ _) h0
 | 1 => show (LK1 p k1 i).length ≤ m; unfold LK1; rw [ofNats_len]; exact Nat.le_trans (hf _ _) h1
 | 2 => show (LK2 p k2 i).length ≤ m; unfold LK2; rw [ofNats_len]; exact Nat.le_trans (hf _ _) h2
 | 3 =>
   show (LK3 p j i).length ≤ m
   unfold LK3
   rw [List.length_map]
   refine Nat.le_trans (List.length_filter_le _ _) ?_
   rw [List.length_take]
   omega
 | _ + 4 => exact Nat.zero_le _
end If
theorem Rws.init {p : If.Pb} {e tS : TypeId} {w : World} {g4 g6 g8 g10 n : Nat} {MR : Array Value} (h4 : w.heap[g4]? = some (.cells MR tS (0, 0))) (h6 : w.heap[g6]? = some (.cells MR tS (0, 0))) (h8 : w.heap[g8]? = some (.cells MR tS (0, 0))) (h10 : w.heap[g10]? = some (.cells MR tS (0, 0)))
   (hM : ∀ i, i < n → MR[i]? = some (.slice none 0 0)) (n1 : g4 ≠ g6) (n2 : g4 ≠ g8) (n3 : g4 ≠ g10) (n4 : g6 ≠ g8) (n5 : g6 ≠ g10) (n6 : g8 ≠ g10) : Rws e w.heap.size w (rsel g4 g6 g8 g10) n (fun _ _ => .slice none 0 0) (If.LK p 0 0 0 0) := by
 have hr : ∀ t, t < 4 → w.heap[rsel g4 g6 g8 g10 t]? = some (.cells MR tS (0, 0)) := fun t ht => by
   match t, ht with
   | 0, _ => exact h4
   | 1, _ => exact h6
   | 2, _ => exact h8
   | 3, _ => exact h10
 refine ⟨fun t i ht hi => by simp [World.cell?, hr t ht, hM i hi], fun t i ht => by simp [World.frozen?, hr t ht], fun t ht => (Array.getElem?_eq_some_iff.1 (hr t ht)).1, Nat.le_refl _, fun t t' ht ht' e => ?_, fun t i _ _ => ?_, fun t i t' i' x _ _ _ _ h _ => by cases h⟩
 · match t, t', ht, ht' with
   | 0, 0, _, _ => rfl
   | 0, 1, _, _ => exact absurd e n1
   | 0, 2, _, _ => exact absurd e n2
   | 0, 3, _, _ => exact absurd e n3
   | 1, 0, _, _ => exact absurd e.symm n1
   | 1, 1, _, _ => rfl
   | 1, 2, _, _ => exact absurd e n4
   | 1, 3, _, _ => exact absurd e n5
   | 2, 0, _, _ => exact absurd e.symm n2
   | 2, 1, _, _ => exact absurd e.symm n4
   | 2, 2, _, _ => rfl
   | 2, 3, _, _ => exact absurd e n6
   | 3, 0, _, _ => exact absurd e.symm n3
   | 3, 1, _, _ => exact absurd e.symm n5
   | 3, 2, _, _ => exact absurd e.symm n6
   | 3, 3, _, _ => rfl
 · rw [If.LK_nil]
   exact World.ownsRow_nil _ _ _ _
end Go.Df
namespace Go.Proofs.YtooejoajojanjaaGreatDoor
open Go.RowKit Go.Df Go.Df.If
theorem pop_some {rA qA : Option Addr} {rc qn qc n : Nat} {r : List Nat} {N : Nat} (w : World) (hr : SIn w rA 0 rc []) (hq : SIn w qA qn qc (ofNats (n :: r))) (hd : (n :: r).Nodup) (hN : ∀ x ∈ n :: r, x < N) (h8 : N ≤ 8192) :
   Calls Tryz.prog 91 #[.agg #[.slice rA 0 rc, .slice qA qn qc]] w (GetPop w (n : Int) [] (ofNats r) true) := by
 have hc := wl_ok hd hN h8
 have hl : qn = r.length + 1 := by have := hq.1.1; rw [ofNats_len] at this; simpa using this.symm
 have e1 : gi (ofNats (n :: r)) 0 = (n : Int) := by rw [gi_ofNats (by simp)]; rfl
 have e2 : (ofNats (n :: r)).drop 1 = ofNats r := by simp [ofNats]
 have key : Calls Tryz.prog 91 #[.agg #[.slice rA 0 rc, .slice qA qn qc]] w (GetPop w (gi (ofNats (n :: r)) 0) [] ((ofNats (n :: r)).drop 1) true) := by
   by_cases h2 : 2 ≤ qn
   · exact pop_two rA qA 0 rc qn qc [] (ofNats (n :: r)) w hr.1 hq.1 hc h2 hq.2.1 (fun _ => rfl)
   · obtain rfl : qn = 1 := by omega
     exact pop_one rA qA 0 rc qc [] (ofNats (n :: r)) w hr.1 hq.1 hc hq.2.1 (fun _ => rfl)
 rw [e1, e2] at key
 exact key
end Go.Proofs.YtooejoajojanjaaGreatDoor
namespace Go.Df
def Mps (lim i : Nat) (m : Nat → Option Nat) : Prop := (∀ x, x < i → ∃ b, m x = some b) ∧ (∀ x, i ≤ x → m x = none) ∧ ∀ x b, m x = some b → lim ≤ b
theorem Mps.zero (lim : Nat) : Mps lim 0 (fun _ => none) := ⟨fun _ h => absurd h (by omega), fun _ _ => rfl, fun _ _ h => by cases h⟩
theorem Mps.step {lim i b : Nat} {m : Nat → Option Nat} (h : Mps lim i m) (hb : lim ≤ b) : Mps lim (i + 1) (fun x => if x = i then some b else m x) := by
 refine ⟨fun x hx => ?_, fun x hx => ?_, fun x c hx => ?_⟩
 · by_cases e : x = i
   · exact ⟨b, if_pos e⟩
   · obtain ⟨c, hc⟩ := h.1 x (by omega)
     exact ⟨c, by dsimp only; rw [if_neg e]; exact hc⟩
 · dsimp only
   rw [if_neg (by omega)]
   exact h.2.1 x (by omega)
 · dsimp only at hx
   by_cases e : x = i
   · rw [if_pos e] at hx; injection hx with hx; omega
   · rw [if_neg e] at hx; exact h.2.2 x c hx
end Go.Df
