/- Texts: Zo Zj. -/
import Derived.Test.YtooejoajojanjaaGreatDoorXSf12
namespace Go.Df.If
open Go.RowKit
theorem endsX_some {p : Px} {L : List Su} (h : p.kn = some L) (s : St) (x b : Nat) : endsX p s x b = (froms (endP p.ns L x) b).map fun w => w.o.toNat := by
 unfold endsX
 rw [h]
end Go.Df.If
namespace Go.Proofs.YtooejoajojanjaaGreatDoor
open Go.RowKit Go.Df Go.Df.If Go.Maps
attribute [local go_sem ↓] Go.wp_at_zero Go.wp_at_succ
set_option maxRecDepth 100000 in
set_option maxHeartbeats 40000000 in
theorem ends_some {p : Px} {K : Kn} {w0 : World} {b : Nat} {O : Nat → Prop} {G : Gh} {s : St} {L : List Su} (w : World) (x c0 : Nat) (ho : OkX p) (hI : Inp p.toPb K w0) (hm : Mem p.toPb K w0 b O G w s) (hk : KnX p K w0 O w) (hkn : p.kn = some L) (hx : x < p.ns.length) :
   Calls Tryz.prog 170 #[.pointer (some ⟨b, 0, none⟩), .int .i64 x, .int .i64 c0] w (GetList w (endsX p s x c0)) := by
 have hx1 : x < K.n1 := by have := hI.nd.1; omega
 have hwf := hk.wf (by rw [hkn]; simp) x hx
 have hx1' : (x : Int) < (K.n1 : Int) := by omega
 obtain ⟨kb, mc, mv, hkv, hsb, hmap, hval⟩ := hk.yes L hkn
 have B0 := hm.box
 unfold sbox at B0
 rw [hkv] at B0
 have ⟨LB, CB, FB⟩ := B0
 obtain ⟨b1, o1, e1, hl1, hc1⟩ := hI.nd.2 (by omega)
 obtain ⟨n1, n2, n3⟩ := hc1 x hx1
 obtain ⟨f, hf⟩ : ∃ f, (gn p.ns x).f = f := ⟨_, rfl⟩
 obtain ⟨nk, hnk⟩ : ∃ nk, (gn p.ns x).k = nk := ⟨_, rfl⟩
 obtain ⟨ni, hni⟩ : ∃ ni, (gn p.ns x).i = ni := ⟨_, rfl⟩
 rw [hf] at n1 hwf
 rw [hnk] at n2
 rw [hni] at n3
 have q1 : w.cell? ⟨b1, o1 + x * 3, none⟩ = some (.int .i64 f) := (hm.low.cell (p := ⟨b1, _, none⟩) hl1).trans n1
 have q2 : w.cell? ⟨b1, o1 + x * 3 + 1, none⟩ = some (.int .i64 nk) := (hm.low.cell (p := ⟨b1, _, none⟩) hl1).trans n2
 have q3 : w.cell? ⟨b1, o1 + x * 3 + 2, none⟩ = some (.int .i64 ni) := (hm.low.cell (p := ⟨b1, _, none⟩) hl1).trans n3
 have hl1w : b1 < w.heap.size := Nat.lt_of_lt_of_le hl1 hm.low.size
 have HF := Lib.hid hf
 have HNK := Lib.hid hnk
 obtain ⟨fv, A, n, cA, A', n', cA', hv, hnc, hnc', hp, hp', hor, hor'⟩ := hval f hwf
 have HPX := Lib.hid hp
 have HPY := Lib.hid hp'
 have HOX := Lib.hid hor
 have HOY := Lib.hid hor'
 have HM := Lib.hid hm
 have HO := Lib.hid ho
 have HKN := Lib.hid hkn
 have HMP := Lib.hid hmap
 have HV := Lib.hid hv
 have HKY := Lib.hid (Tryz.keyInt f hwf)
 have hsb1 := hsb.1
 have hqm := fun w r => run_eql_map_nil (P := Tryz.prog) w 96 3 30 r Tryz.mapIS
 have hfd1 : ∀ w : World, (Instr.field 30 (.agg #[.int .i64 fv, .slice A n cA, .slice A' n' cA']) 1).run Tryz.prog w = .ok (.slice A n cA) w := fun _ => by kernel_rfl
 have hfd2 : ∀ w : World, (Instr.field 30 (.agg #[.int .i64 fv, .slice A n cA, .slice A' n' cA']) 2).run Tryz.prog w = .ok (.slice A' n' cA') w := fun _ => by kernel_rfl
 have LOW : ∀ {wr : World}, Below w.heap.size w wr → Below w0.heap.size w0 wr := fun h => HM.out.low.trans (h.mono HM.out.low.size)
 clear hm hI ho hk hkn hc1 n1 n2 n3 hf hnk hni hmap hval hv hp hp' hor hor' hkv hsb
 go_enter Tryz.func170, Tryz.ntmps170
 go_upto_region 4 with fail
 refine wp_named (fun V => ∃ g0, w.heap.size = g0 ∧ Blk V g0 [.int .i64 f, .int .i64 nk, .int .i64 ni] ∧ Kept [] w V) ⟨_, rfl, Blk.new _ _ _ _ rfl, (Kept.refl _ _).alloc _⟩ ?_
 rintro V0 ⟨g0, eg0, Bg0, hkV0⟩
 rw [eg0]
 have ⟨Lg0, Cg0, Fg0⟩ := Bg0
 have M0 := Lib.hid (HM.out.call hkV0.toBelow)
 have B1 := hkV0.blk (by simp) B0
 have ⟨LB1, CB1, FB1⟩ := B1
 have HMV := Lib.hid (HMP.out.kept hkV0 (by simp))
 have hl0 : ∀ q, (Instr.lookup 96 (.map (some kb)) (.int .i64 f) false).run Tryz.prog (V0.drewN q) = .ok (.agg #[.int .i64 fv, .slice A n cA, .slice A' n' cA']) (V0.drewN q) := fun q => by
   have h1 := (HMV.out.kept ((Kept.refl [] V0).drewN q) (by simp)).look Tryz.lawInt Tryz.mapIS (Tryz.zeroSum (V0.drewN q)) HKY.out
   rwa [HV.out] at h1
 clear q1 q2 q3 CB FB B0 eg0
 go_quiet (fail)
 refine then_named (fun X => Kept [] V0 X) (by first | exact (Kept.refl _ _).drewN _ | exact Kept.refl _ _) ?_
 rintro V2 hkV2
 have M2 := Lib.hid (M0.out.call hkV2.toBelow)
 have B2 := hkV2.blk (by simp) B1
 have ⟨L2, C2, F2b⟩ := B2
 have Bg2 := hkV2.blk (by simp) Bg0
 have ⟨Lg2, Cg2, Fg2⟩ := Bg2
 clear Cg0 Fg0 CB1 FB1 hl0
 by_cases h4 : nk = 4
 · subst h4
   have HEP : Hid (endP p.ns L x = thF L f) := by show _ = _; rw [endP_th HNK.out, HF.out]
   have hl0 : ∀ q, (Instr.lookup 96 (.map (some kb)) (.int .i64 f) false).run Tryz.prog (V2.drewN q) = .ok (.agg #[.int .i64 fv, .slice A n cA, .slice A' n' cA']) (V2.drewN q) := fun q => by
     have h1 := ((HMV.out.kept hkV2 (by simp)).kept ((Kept.refl [] V2).drewN q) (by simp)).look Tryz.lawInt Tryz.mapIS (Tryz.zeroSum (V2.drewN q)) HKY.out
     rwa [HV.out] at h1
   go_upto_region 6 with fail
   go_quiet (fail)
   refine then_named (fun X => Kept [] V2 X) (by first | exact (Kept.refl _ _).drewN _ | exact Kept.refl _ _) ?_
   rintro V3 hkV3
   have M2 := Lib.hid (M2.out.call hkV3.toBelow)
   have hkV2 := keptTrans hkV2 hkV3
   clear Cg2 Fg2 hkV3
   go_upto_region 9 with (go_at_call 169; refine (from_all A' n' cA' c0 (thF L f) w0 _ HPY.out M2.out.low (by omega) HOY.out).mono ?_; rintro e w1 ⟨A3, m, c3, rfl, hp1, hb1⟩)
   have HP1 := Lib.hid hp1
   have HML : Hid (m = (froms (thF L f) c0).length) := Lib.hid hp1.1.symm
   have M3 := Lib.hid (M2.out.call hb1)
   have HB1 : Hid (Below w.heap.size w w1) := Lib.hid ((hkV0.toBelow).trans ((hkV2.toBelow.mono hkV0.size).trans (hb1.mono (by have h1 := hkV0.size; have h2 := hkV2.size; omega))))
   have hm8 : m ≤ 8192 := by
     have h1 := HML.out
     have h3 : (froms (thF L f) c0).length ≤ (thF L f).length := List.length_filter_le _ _
     have h2 := HOY.out.1
     omega
   have HE : Hid (endsX p s x c0 = (froms (thF L f) c0).map fun q => q.o.toNat) := by
     show _ = _
     rw [endsX_some HKN.out, HEP.out]
   obtain ⟨l, hl⟩ : ∃ l, l = froms (thF L f) c0 := ⟨_, rfl⟩
   have HPO : Hid (∀ q ∈ l, 0 ≤ q.o) := fun q hq => by
     rw [hl] at hq
     have h1 := (mem_froms.1 hq).1
     rw [← HEP.out] at h1
     exact (HO.out.kn L HKN.out x q h1).2.1
   rw [← hl] at HP1 HML HE
   clear hl hp1 C2 F2b M2 hl0
   obtain ⟨i0, hi, hz0, hz1, hz2⟩ := info_parts int_info
   go_wp2_with fail
   go_loopw [9, 59] (fun v s59 wr => ∃ j : Nat, j ≤ m ∧ s59 = .int .i64 j ∧ wr.ownsRow w.heap.size 3 1 v j (((l.take j).map fun q => q.o.toNat).map nint) ∧ Below w.heap.size w wr) (fun _ s59 _ => m - (intOf s59).toNat)
   case atStart => exact ⟨0, Nat.zero_le _, rfl, ⟨by simp, .inl ⟨rfl, rfl⟩⟩, HB1.out⟩
   case round =>
     obtain ⟨j, hj, rfl, hown, hB⟩ := hrel
     by_cases hlt : j < m
     case neg =>
       obtain rfl : j = m := by omega
       go_wp2_with fail
       go_ret
       have e9 : ((l.take j).map fun q => q.o.toNat) = l.map fun q => q.o.toNat := by rw [List.take_of_length_le (by rw [HML.out]; exact Nat.le_refl _)]
       have hown' := hown
       rw [e9, nints] at hown'
       obtain ⟨A', c', rfl, h1, h2⟩ := SIn.of_own hown'
       rw [HE.out]
       exact ⟨A', j, c', rfl, h1, h2, hB⟩
     obtain ⟨b5, o5, e5, hl5, hc5⟩ := HP1.out.2 (by omega)
     subst e5
     obtain ⟨h1, h2⟩ := hc5 j hlt
     have hj9 : j < l.length := by rw [← HML.out]; exact hlt
     obtain ⟨xi, hxi⟩ : ∃ xi, (gp l j).i = xi := ⟨_, rfl⟩
     obtain ⟨xo, hxo⟩ := Int.eq_ofNat_of_zero_le (HPO.out (gp l j) (by rw [gp_lt hj9]; exact List.getElem_mem hj9))
     rw [hxi] at h1
     rw [hxo] at h2
     have hwB := hB
     have r5 : wr.cell? ⟨b5, o5 + j * 2, none⟩ = some (.int .i64 xi) := ((LOW hwB).cell (p := ⟨b5, _, none⟩) hl5).trans h1
     have r6 : wr.cell? ⟨b5, o5 + j * 2 + 1, none⟩ = some (.int .i64 xo) := ((LOW hwB).cell (p := ⟨b5, _, none⟩) hl5).trans h2
     have hlr : b5 < wr.heap.size := Nat.lt_of_lt_of_le hl5 (LOW hwB).size
     have hj1 : (j : Int) < (m : Int) := by omega
     have E2 : Hid ((((l.take (j + 1)).map fun q => q.o.toNat).map nint) = ((l.take j).map fun q => q.o.toNat).map nint ++ [nint xo]) := by
       show _ = _
       have e1 : l[j].o.toNat = xo := by rw [← gp_lt hj9, hxo]; simp
       rw [List.take_succ_eq_append_getElem hj9, List.map_append, List.map_append, List.map_singleton, List.map_singleton, e1]
     have OWN := Lib.hid hown
     clear hc5 h1 h2 hxi hxo hown
     go_upto_region 11 with fail
     refine wp_named (fun V => ∃ g, wr.heap.size = g ∧ Blk V g [.int .i64 xi, .int .i64 xo] ∧ Kept [] wr V ∧ V = wr.alloc (.cells #[.int .i64 xi, .int .i64 xo] 72)) ⟨_, rfl, Blk.new _ _ _ _ rfl, (Kept.refl _ _).alloc _, rfl⟩ ?_
     rintro V4 ⟨g, eg, Bg, hkV4, eV4⟩
     rw [eg]
     have ⟨Lg, Cg, Fg⟩ := Bg
     have OWN4 := Lib.hid (own_kept2 OWN.out hkV4 (by simp))
     have HB4 : Hid (Below w.heap.size w V4) := Lib.hid (hB.trans (hkV4.toBelow.mono hB.size))
     have hgw : w.heap.size ≤ V4.heap.size := HB4.out.size
     clear eV4 eg r5 r6 hB hwB OWN
     go_wp2_with (at_builtin; refine wpList_append_own _ rfl _ _ 31 rfl w.heap.size 3 i0 (.int .i64 0) 1 8 Tryz.underlying31 hi hz0 hz1 hz2 rfl (by decide) _ _ _ rfl (OWN4.out.alloc _) ⟨V4.heap.size, 0, none⟩ 1 1 [nint xo] rfl rfl ?c1 ?c2 ?c3 ?c4 ?c5 ?_)
     case c1 => exact cell_one_new _ _ _
     case c2 => intro u hu; simp at hu; subst hu; rfl
     case c3 => unfold maxLen; omega
     case c4 => omega
     case c5 => simp; omega
     intro v' w1' hown1 hgrow _
     have hB1 : Below w.heap.size w w1' := (HB4.out.alloc HB4.out.size _).grown hgrow (by have := HB4.out.size; simp; omega) (fun g hg => own_ge OWN4.out hg)
     have hown2 : w1'.ownsRow w.heap.size 3 1 v' (j + 1) (((l.take (j + 1)).map fun q => q.o.toNat).map nint) := by
       rw [E2.out]; simpa using hown1
     clear hown1 E2 hgrow OWN4
     go_wp2_with fail
     exact ⟨⟨j + 1, by omega, by go_num, hown2, hB1⟩, by simp [intOf]; omega⟩
 · have HEP : Hid (endP p.ns L x = exF L f) := by show _ = _; rw [endP_ex (by rw [HNK.out]; exact h4), HF.out]
   have h4' : (nk == 4) = false := by simpa using h4
   have hl0 : True := trivial
   clear h4
   go_upto_region 9 with (go_at_call 169; refine (from_all A n cA c0 (exF L f) w0 _ HPX.out M2.out.low (by omega) HOX.out).mono ?_; rintro e w1 ⟨A3, m, c3, rfl, hp1, hb1⟩)
   have HP1 := Lib.hid hp1
   have HML : Hid (m = (froms (exF L f) c0).length) := Lib.hid hp1.1.symm
   have M3 := Lib.hid (M2.out.call hb1)
   have HB1 : Hid (Below w.heap.size w w1) := Lib.hid ((hkV0.toBelow).trans ((hkV2.toBelow.mono hkV0.size).trans (hb1.mono (by have h1 := hkV0.size; have h2 := hkV2.size; omega))))
   have hm8 : m ≤ 8192 := by
     have h1 := HML.out
     have h3 : (froms (exF L f) c0).length ≤ (exF L f).length := List.length_filter_le _ _
     have h2 := HOX.out.1
     omega
   have HE : Hid (endsX p s x c0 = (froms (exF L f) c0).map fun q => q.o.toNat) := by
     show _ = _
     rw [endsX_some HKN.out, HEP.out]
   obtain ⟨l, hl⟩ : ∃ l, l = froms (exF L f) c0 := ⟨_, rfl⟩
   have HPO : Hid (∀ q ∈ l, 0 ≤ q.o) := fun q hq => by
     rw [hl] at hq
     have h1 := (mem_froms.1 hq).1
     rw [← HEP.out] at h1
     exact (HO.out.kn L HKN.out x q h1).2.1
   rw [← hl] at HP1 HML HE
   clear hl hp1 C2 F2b M2 hl0
   obtain ⟨i0, hi, hz0, hz1, hz2⟩ := info_parts int_info
   go_wp2_with fail
   go_loopw [9, 59] (fun v s59 wr => ∃ j : Nat, j ≤ m ∧ s59 = .int .i64 j ∧ wr.ownsRow w.heap.size 3 1 v j (((l.take j).map fun q => q.o.toNat).map nint) ∧ Below w.heap.size w wr) (fun _ s59 _ => m - (intOf s59).toNat)
   case atStart => exact ⟨0, Nat.zero_le _, rfl, ⟨by simp, .inl ⟨rfl, rfl⟩⟩, HB1.out⟩
   case round =>
     obtain ⟨j, hj, rfl, hown, hB⟩ := hrel
     by_cases hlt : j < m
     case neg =>
       obtain rfl : j = m := by omega
       go_wp2_with fail
       go_ret
       have e9 : ((l.take j).map fun q => q.o.toNat) = l.map fun q => q.o.toNat := by rw [List.take_of_length_le (by rw [HML.out]; exact Nat.le_refl _)]
       have hown' := hown
       rw [e9, nints] at hown'
       obtain ⟨A', c', rfl, h1, h2⟩ := SIn.of_own hown'
       rw [HE.out]
       exact ⟨A', j, c', rfl, h1, h2, hB⟩
     obtain ⟨b5, o5, e5, hl5, hc5⟩ := HP1.out.2 (by omega)
     subst e5
     obtain ⟨h1, h2⟩ := hc5 j hlt
     have hj9 : j < l.length := by rw [← HML.out]; exact hlt
     obtain ⟨xi, hxi⟩ : ∃ xi, (gp l j).i = xi := ⟨_, rfl⟩
     obtain ⟨xo, hxo⟩ := Int.eq_ofNat_of_zero_le (HPO.out (gp l j) (by rw [gp_lt hj9]; exact List.getElem_mem hj9))
     rw [hxi] at h1
     rw [hxo] at h2
     have hwB := hB
     have r5 : wr.cell? ⟨b5, o5 + j * 2, none⟩ = some (.int .i64 xi) := ((LOW hwB).cell (p := ⟨b5, _, none⟩) hl5).trans h1
     have r6 : wr.cell? ⟨b5, o5 + j * 2 + 1, none⟩ = some (.int .i64 xo) := ((LOW hwB).cell (p := ⟨b5, _, none⟩) hl5).trans h2
     have hlr : b5 < wr.heap.size := Nat.lt_of_lt_of_le hl5 (LOW hwB).size
     have hj1 : (j : Int) < (m : Int) := by omega
     have E2 : Hid ((((l.take (j + 1)).map fun q => q.o.toNat).map nint) = ((l.take j).map fun q => q.o.toNat).map nint ++ [nint xo]) := by
       show _ = _
       have e1 : l[j].o.toNat = xo := by rw [← gp_lt hj9, hxo]; simp
       rw [List.take_succ_eq_append_getElem hj9, List.map_append, List.map_append, List.map_singleton, List.map_singleton, e1]
     have OWN := Lib.hid hown
     clear hc5 h1 h2 hxi hxo hown
     go_upto_region 11 with fail
     refine wp_named (fun V => ∃ g, wr.heap.size = g ∧ Blk V g [.int .i64 xi, .int .i64 xo] ∧ Kept [] wr V ∧ V = wr.alloc (.cells #[.int .i64 xi, .int .i64 xo] 72)) ⟨_, rfl, Blk.new _ _ _ _ rfl, (Kept.refl _ _).alloc _, rfl⟩ ?_
     rintro V4 ⟨g, eg, Bg, hkV4, eV4⟩
     rw [eg]
     have ⟨Lg, Cg, Fg⟩ := Bg
     have OWN4 := Lib.hid (own_kept2 OWN.out hkV4 (by simp))
     have HB4 : Hid (Below w.heap.size w V4) := Lib.hid (hB.trans (hkV4.toBelow.mono hB.size))
     have hgw : w.heap.size ≤ V4.heap.size := HB4.out.size
     clear eV4 eg r5 r6 hB hwB OWN
     go_wp2_with (at_builtin; refine wpList_append_own _ rfl _ _ 31 rfl w.heap.size 3 i0 (.int .i64 0) 1 8 Tryz.underlying31 hi hz0 hz1 hz2 rfl (by decide) _ _ _ rfl (OWN4.out.alloc _) ⟨V4.heap.size, 0, none⟩ 1 1 [nint xo] rfl rfl ?c1 ?c2 ?c3 ?c4 ?c5 ?_)
     case c1 => exact cell_one_new _ _ _
     case c2 => intro u hu; simp at hu; subst hu; rfl
     case c3 => unfold maxLen; omega
     case c4 => omega
     case c5 => simp; omega
     intro v' w1' hown1 hgrow _
     have hB1 : Below w.heap.size w w1' := (HB4.out.alloc HB4.out.size _).grown hgrow (by have := HB4.out.size; simp; omega) (fun g hg => own_ge OWN4.out hg)
     have hown2 : w1'.ownsRow w.heap.size 3 1 v' (j + 1) (((l.take (j + 1)).map fun q => q.o.toNat).map nint) := by
       rw [E2.out]; simpa using hown1
     clear hown1 E2 hgrow OWN4
     go_wp2_with fail
     exact ⟨⟨j + 1, by omega, by go_num, hown2, hB1⟩, by simp [intOf]; omega⟩
theorem ends_any {p : Px} {K : Kn} {w0 : World} {b : Nat} {O : Nat → Prop} {G : Gh} {s : St} (w : World) (x c0 : Nat) (ho : OkX p) (hI : Inp p.toPb K w0) (hw : Wf p.toPb s) (hm : Mem p.toPb K w0 b O G w s) (hk : KnX p K w0 O w) (hx : x < p.ns.length) (hc : c0 ≤ 1000000) :
   Calls Tryz.prog 170 #[.pointer (some ⟨b, 0, none⟩), .int .i64 x, .int .i64 c0] w (GetList w (endsX p s x c0)) := by
 cases hkn : p.kn with
 | none => exact ends_none w x c0 hI hw hm hk hkn hx hc
 | some L => exact ends_some w x c0 ho hI hm hk hkn hx
end Go.Proofs.YtooejoajojanjaaGreatDoor
namespace Go.Df.If
theorem enterRX_wf {p : Px} (ho : Ok p.toPb) {k a b : Nat} (ha : a < p.F.toNat) {n : Nat} : ∀ r ∈ retL p.toPb n, ∀ t, Wf p.toPb t → Wf p.toPb (enterRX p k a b t r) := fun r hr t ht => by
 unfold enterRX
 split
 · exact fold_keep (Q := Wf p.toPb) _ t (fun f _ u hu => spread_wf ho (retL_mem.1 hr).1 ha hu) ht
 · exact ht
end Go.Df.If
namespace Go.Proofs.YtooejoajojanjaaGreatDoor
open Go.RowKit Go.Df Go.Df.If
attribute [local go_sem ↓] Go.wp_at_zero Go.wp_at_succ
set_option maxRecDepth 100000 in
set_option maxHeartbeats 100000000 in
theorem enter_any {p : Px} {K : Kn} {w0 : World} {b : Nat} {O : Nat → Prop} {G : Gh} {s : St} (w : World) (k a d : Nat) (hI : Inp p.toPb K w0) (hox : OkX p) (hw : Wf p.toPb s) (hm : Mem p.toPb K w0 b O G w s) (hkx : KnX p K w0 O w) (hk : k < p.es.length) (hkind : (ge p.es k).k = 2) (ha : a < p.F.toNat) :
   Calls Tryz.prog 135 #[.pointer (some ⟨b, 0, none⟩), .int .i64 k, .int .i64 a, .int .i64 d] w (GetMem p.toPb K w0 b O w (enterX p k a d s)) := by
 have ho := hox.ok
 have HOX := Lib.hid hox
 have hF2 : p.F.toNat ≤ 1024 := by have := ho.f2; omega
 have hE2 : p.es.length ≤ 32768 := (sup_parts ho.sup).2.1
 have hN2 : p.ns.length ≤ 8192 := (sup_parts ho.sup).1
 have HN1 := Lib.hid hI.nd.1.symm
 have HM1 := Lib.hid hI.ed.1.symm
 have hkK : k < K.n2 := by rw [HM1.out]; exact hk
 have HM := Lib.hid hm
 have HW := Lib.hid hw
 have HI := Lib.hid hI
 have HO := Lib.hid ho
 have HKD := Lib.hid hkind
 have B0 := hm.box
 unfold sbox at B0
 have ⟨LB, CB, FB⟩ := B0
 obtain ⟨b2, o2, ea, eb, -, e2, -, hl2, hk2, hea, heb, hea2, heb2, r2a, r2b, r2c, r2d, -⟩ := hI.edge ho hm.low hk
 have HEA := Lib.hid hea
 have HEB := Lib.hid heb
 obtain ⟨ek, hek⟩ : ∃ x, (ge p.es k).k = x := ⟨_, rfl⟩
 obtain ⟨ec, hec⟩ : ∃ x, (ge p.es k).c = x := ⟨_, rfl⟩
 rw [hek] at r2c
 rw [hec] at r2d
 clear hm hw hI ho hea heb hek hec hkind
 go_enter Tryz.func135, Tryz.ntmps135
 go_upto_region 1 with fail
 refine wp_named (fun V => ∃ g0, w.heap.size = g0 ∧ Blk V g0 [.int .i64 ea, .int .i64 eb, .int .i64 ek, .int .i64 ec] ∧ Kept [] w V) ⟨_, rfl, Blk.new _ _ _ _ rfl, (Kept.refl _ _).alloc _⟩ ?_
 rintro V0 ⟨g0, eg0, Bg0, hkV0⟩
 rw [eg0]
 have SB : Hid (SafeB O V0 g0) := ⟨Bg0.1, fun h => by have := (HM.out.og g0 h).2; omega⟩
 have HB0 := Lib.hid Bg0
 have M0 := Lib.hid (HM.out.call hkV0.toBelow)
 have F0w : Hid (Fx O O w V0) := .same hkV0
 have HK0 := Lib.hid (hkx.fx F0w.out)
 have B0' := M0.out.box
 unfold sbox at B0'
 have ⟨LB0, CB0, FB0⟩ := B0'
 obtain ⟨b3, o3, Ai, ni, ci, e3, hl3, hk3, r3, hci, hprs, hni, hni2⟩ := HI.out.flow HO.out M0.out.low hk
 have HPR := Lib.hid hprs
 clear CB FB B0 LB r2a r2b r2c r2d hprs eg0 Bg0 hl2 hk2 e2 HM hkx
 go_upto_region 2 with (go_at_call 169; refine (from_any Ai ni ci d (gf p.fl k) w0 _ HPR.out M0.out.low hni hni2 hci (fl_mono HO.out hk)).mono ?_; rintro e w1 ⟨A', m, c', rfl, hp1, hb1⟩)
 have HP1 := Lib.hid hp1
 have hml : m = (froms (gf p.fl k) d).length := hp1.1.symm
 have HML := Lib.hid hml
 have M1 := Lib.hid (M0.out.call hb1)
 have F1 : Hid (Fx O O V0 w1) := Lib.hid (.same ((Kept.refl _ _).call hb1))
 have hm8 : m ≤ 8192 := by
   have h3 : (froms (gf p.fl k) d).length ≤ (gf p.fl k).length := List.length_filter_le _ _
   have h2 := HPR.out.1
   omega
 clear hp1 hml r3 e3 hl3 hk3 CB0 FB0 B0' LB0 HPR M0
 go_loopw [37] (fun s37 wr => ∃ (j : Nat) (O' : Nat → Prop) (G' : Gh), j ≤ m ∧ s37 = .int .i64 j ∧ Hid (Mem p.toPb K w0 b O' G' wr (upTo (fun s q => enter1X p k a q.o.toNat s) (froms (gf p.fl k) d) s j)) ∧ Hid (Fx O O' V0 wr)) (fun s37 _ => m - (intOf s37).toNat)
 case atStart => exact ⟨0, O, G, Nat.zero_le _, rfl, by rw [upTo_zero]; exact M1, F1⟩
 case round =>
 clear M1 F1
 obtain ⟨j, O1, G1, hj, rfl, MR, FR⟩ := hrel
 by_cases hlt : j < m
 case neg =>
   obtain rfl : j = m := by omega
   go_wp2_with fail
   go_end0
   exact ⟨O1, G1, rfl, MR.out.eq (by rw [HML.out, upTo_all]; rfl), F0w.out.trans FR.out⟩
 obtain ⟨b5, o5, o, rfl, hl5, hj', r5, r5b, hqo, hoF⟩ := prs_at HO.out MR.out.low HP1.out hk hlt
 have hj1 : (j : Int) < (m : Int) := by omega
 have HQO := Lib.hid hqo
 have HWj : Hid (Wf p.toPb (upTo (fun s q => enter1X p k a q.o.toNat s) (froms (gf p.fl k) d) s j)) := Lib.hid (upTo_keep (Q := Wf p.toPb) j (fun q hq t ht => by
   have h1 := HO.out.pair (by rw [HO.out.len]; exact hk) (mem_froms.1 hq).1
   exact enter1X_wf HOX.out hk HKD.out ha (by omega) ht) HW.out)
 have HSU0 : Hid (upTo (fun s q => enter1X p k a q.o.toNat s) (froms (gf p.fl k) d) s (j + 1) = enter1X p k a o (upTo (fun s q => enter1X p k a q.o.toNat s) (froms (gf p.fl k) d) s j)) := by
   show _ = _
   rw [upTo_succ _ _ _ hj', HQO.out, Int.toNat_natCast]
 obtain ⟨t0, ht0⟩ : ∃ t0, t0 = upTo (fun s q => enter1X p k a q.o.toNat s) (froms (gf p.fl k) d) s j := ⟨_, rfl⟩
 rw [← ht0] at MR HWj HSU0
 clear hqo ht0
 go_upto_region 4 with fail
 refine wp_named (fun V => ∃ g, wr.heap.size = g ∧ Blk V g [.int .i64 d, .int .i64 o] ∧ Kept [] wr V) ⟨_, rfl, Blk.new _ _ _ _ rfl, (Kept.refl _ _).alloc _⟩ ?_
 rintro V1 ⟨g, eg, Bg, hkV1⟩
 rw [eg]
 have ⟨Lg, Cg, Fg⟩ := Bg
 have MV1 := Lib.hid (MR.out.call hkV1.toBelow)
 have FV1 := Lib.hid (FR.out.trans (.same hkV1))
 have ⟨Le1, Ce1, Fe1⟩ := SB.out.blk FV1.out HB0.out
 clear r5 r5b eg MR FR
 have hqm := fun w r => run_neq_map_nil (P := Tryz.prog) w 96 3 30 r Tryz.mapIS
 by_cases hkn : p.kn = none
 · have hkv := HK0.out.no hkn
   have BK := MV1.out.box
   unfold sbox at BK
   rw [hkv] at BK
   have ⟨LBK, CBK, FBK⟩ := BK
   have HKN := Lib.hid hkn
   clear hkv hkn
   go_upto_region 7 with fail
   clear CBK FBK
   refine wp_named (fun V => V = V1) rfl ?_
   rintro w2 ew2
   have M2 : Hid (Mem p.toPb K w0 b O1 G1 w2 t0) := Lib.hid (by rw [ew2]; exact MV1.out)
   have F2 : Hid (Fx O O1 V0 w2) := Lib.hid (by rw [ew2]; exact FV1.out)
   have HW2 := HWj
   obtain ⟨t1, ht1⟩ : ∃ t1, t1 = t0 := ⟨_, rfl⟩
   obtain ⟨O2, hO2⟩ : ∃ O2, O2 = O1 := ⟨_, rfl⟩
   obtain ⟨G2, hG2⟩ : ∃ G2, G2 = G1 := ⟨_, rfl⟩
   rw [← ht1, ← hO2, ← hG2] at M2
   rw [← ht1] at HW2
   rw [← hO2] at F2
   have HT1 : Hid (t1 = addE p k o t0) := by show _ = _; unfold addE; rw [if_pos HKN.out, ht1]
   clear Ce1 Fe1 Cg Fg ht1 hO2 hG2 ew2
   have B2 := M2.out.box
   unfold sbox at B2
   have ⟨LB2, CB2, FB2⟩ := B2
   obtain ⟨A, kk, c, l, hv, hbt, hkk, hA, hsf, hhas⟩ := M2.out.ebits k o hkK
   obtain ⟨bm, hbm⟩ := M2.out.esm k hkK
   have r9 : w2.cell? ⟨K.er, k, none⟩ = some (.map (some bm)) := by have := M2.out.ent.cell hkK; rwa [hbm] at this
   have ler : K.er < w2.heap.size := (M2.out.og _ M2.out.oe).2
   have hkK1 : (k : Int) < (K.n2 : Int) := by omega
   have HBM := Lib.hid hbm
   have HV := Lib.hid hv
   have HBT := Lib.hid hbt
   have HH := Lib.hid hhas
   have HA := Lib.hid hA
   have hhd := hhas a
   clear hbt hsf hhas hA hv hbm
   cases hh : t1.e k o a with
   | true =>
     rw [hh] at hhd
     have HSU : Hid (upTo (fun s q => enter1X p k a q.o.toNat s) (froms (gf p.fl k) d) s (j + 1) = t1) := by
       show _ = _
       rw [HSU0.out]
       unfold enter1X
       rw [← HT1.out, if_pos hh]
     clear hh
     go_wp2_with (go_at_call 89; refine (insert_has K.er K.n2 k o a bm G2.em G2.ec G2.ev A kk c l _ M2.out.ent hkK HBM.out (by omega) (by omega) HV.out HBT.out hhd).mono ?_; rintro e w4 ⟨rfl, rfl⟩)
     exact ⟨⟨j + 1, O2, G2, by omega, by go_num, Lib.hid (M2.out.eq HSU.out.symm), F2⟩, by simp [intOf]; omega⟩
   | false =>
   rw [hh] at hhd
   have HH0 := Lib.hid hh
   have hcn : G2.ec k < maxLen := by
     have h1 := M2.out.ecb k hkK
     have h3 := trip_le (N := p.es.length) (F := p.F.toNat) (by omega) (by omega)
     unfold maxLen
     omega
   clear hh
   go_upto_region 8 with (go_at_call 89; refine (insert_new K.er K.n2 k o a bm G2.em G2.ec G2.ev A kk c l _ M2.out.ent hkK HBM.out (by omega) (by omega) HV.out HBT.out hkk HA.out hcn hhd).mono ?_; rintro e w5 ⟨w4, A2, k2, l2, rfl, hb4, hbt2, hhas2, hk2, hfr2, hA2, hput⟩)
   have M4 := Lib.hid (M2.out.call hb4)
   have F4 := Lib.hid (F2.out.call hb4)
   have HBV : Hid (BtV O2 w4 (.slice A2 k2 k2) (fun y => t1.e k o y || y == a)) := Lib.hid ⟨A2, k2, k2, l2, rfl, hbt2, hk2, hA2, fun _ x hx => ⟨(hfr2 x hx).2, fun hox => by have h1 := M2.out.og _ hox; have h2 := (hfr2 x hx).1; omega⟩, fun x => by rw [hhas2, HH.out]⟩
   obtain ⟨O5, G5, -, M5', F5'⟩ := M4.out.put_ent HM1.out hkK hoF ha HH0.out HBV.out hput
   clear CB2 FB2 hbt2 hhas2 hfr2 hA2 HBT HA M2 F2 hput r9
   have M5 := Lib.hid M5'
   have F5 := Lib.hid (F4.out.trans F5')
   have HW5 := Lib.hid (HW2.out.ent (b := o) ha hk HKD.out)
   have B5 := M5.out.box
   unfold sbox at B5
   have ⟨L5, C5, F5b⟩ := B5
   have ⟨Le5, Ce5, Fe5⟩ := SB.out.blk F5.out HB0.out
   have hea1 : ea < K.n1 := by rw [HN1.out]; exact hea2
   have hea1' : (ea : Int) < (K.n1 : Int) := by omega
   obtain ⟨A6, n6, c6, r6, hs6⟩ := M5.out.rets.2 ea hea1
   have hrr5 : K.rr < w5.heap.size := M5.out.rets.1.1
   have HS6 := Lib.hid hs6
   have hn6 : n6 = (retL p.toPb ea).length := by have := hs6.1.1.1; rw [ofNats_len] at this; exact this.symm
   have hn6b : n6 ≤ 32768 := by
     have h1 : (retL p.toPb ea).length ≤ (List.range p.es.length).length := List.length_filter_le _ _
     rw [List.length_range] at h1
     omega
   have HN6 := Lib.hid hn6
   obtain ⟨t2, ht2⟩ : ∃ t2, t2 = t1.ent k o a := ⟨_, rfl⟩
   rw [← ht2] at M5 HW5
   have HSU : Hid (upTo (fun s q => enter1X p k a q.o.toNat s) (froms (gf p.fl k) d) s (j + 1) = (retL p.toPb ea).foldl (enterRX p k a o) t2) := by
     show _ = _
     rw [HSU0.out]
     unfold enter1X
     rw [← HT1.out, if_neg (by rw [HH0.out]; simp), HEA.out, Int.toNat_natCast, ht2]
   clear M5' F5' hs6 hn6 ht2 HBV M4 F4
   go_quiet (fail)
   refine then_named (fun X => Kept [] w5 X) (by first | exact (Kept.refl _ _).drewN _ | exact Kept.refl _ _) ?_
   rintro V5 hkV5
   have MV5 := Lib.hid (M5.out.call hkV5.toBelow)
   have FV5 := Lib.hid (F5.out.trans (.same hkV5))
   have HS6V := Lib.hid (HS6.out.fx (.same hkV5))
   clear C5 F5b Ce5 Fe5 r6 HS6 M5 F5
   go_wp2_with fail
   go_loopw [74] (fun s74 wq => ∃ (i : Nat) (O' : Nat → Prop) (G' : Gh), i ≤ n6 ∧ s74 = .int .i64 i ∧ Hid (Mem p.toPb K w0 b O' G' wq (upTo (enterRX p k a o) (retL p.toPb ea) t2 i)) ∧ Hid (Fx O O' V0 wq) ∧ Hid (Fx O5 O' V5 wq)) (fun s74 _ => n6 - (intOf s74).toNat)
   case atStart => exact ⟨0, O5, G5, Nat.zero_le _, rfl, by rw [upTo_zero]; exact MV5, FV5, Lib.hid (Fx.refl _ _)⟩
   case round =>
   rename World => wq
   clear MV5 FV5
   obtain ⟨i, O6, G6, hi6, rfl, MQ, FQ, FQ5⟩ := hrel
   by_cases hlt6 : i < n6
   case neg =>
     obtain rfl : i = n6 := by omega
     go_wp2_with fail
     exact ⟨⟨j + 1, O6, G6, by omega, by go_num, Lib.hid (MQ.out.eq (by rw [HSU.out, HN6.out, upTo_all])), FQ⟩, by simp [intOf]; omega⟩
   have BQ := MQ.out.box
   unfold sbox at BQ
   have ⟨LQ, CQ, FQb⟩ := BQ
   have ⟨Leq, Ceq, Feq⟩ := SB.out.blk FQ.out HB0.out
   obtain ⟨b6, o6, rfl, hl6, hi6', r6⟩ := sin_at (HS6V.out.fx FQ5.out) hlt6
   obtain ⟨r, hr⟩ : ∃ r, (retL p.toPb ea)[i] = r := ⟨_, rfl⟩
   have hrm : r ∈ retL p.toPb ea := by rw [← hr]; exact List.getElem_mem hi6'
   have hrk := (retL_mem.1 hrm).1
   rw [hr] at r6
   have hi1 : (i : Int) < (n6 : Int) := by omega
   obtain ⟨b2, o2, ra, rb, -, e2, -, hl2, hr2, hra, hrb, hra2, hrb2, q2a, -, -, -, -⟩ := HI.out.edge HO.out MQ.out.low hrk
   have HRA := Lib.hid hra
   have hra1 : ra < K.n1 := by rw [HN1.out]; exact hra2
   have hra1' : (ra : Int) < (K.n1 : Int) := by omega
   have q3 := MQ.out.start.2 ra hra1
   have hsb := MQ.out.start.1.1
   obtain ⟨st, hst⟩ : ∃ st, stOf p.ns ra = st := ⟨_, rfl⟩
   rw [hst] at q3
   have HST := Lib.hid hst
   have HWi := Lib.hid (upTo_keep (Q := Wf p.toPb) (s := t2) (l := retL p.toPb ea) (f := enterRX p k a o) i (enterRX_wf HO.out ha) HW5.out)
   have HSI : Hid (upTo (enterRX p k a o) (retL p.toPb ea) t2 (i + 1) = enterRX p k a o (upTo (enterRX p k a o) (retL p.toPb ea) t2 i) r) := by
     show _ = _
     rw [upTo_succ _ _ _ hi6', hr]
   have HRM := Lib.hid hrm
   obtain ⟨t3, ht3⟩ : ∃ t3, t3 = upTo (enterRX p k a o) (retL p.toPb ea) t2 i := ⟨_, rfl⟩
   rw [← ht3] at MQ HWi HSI
   clear hr hra hrb hst ht3 hrm
   by_cases hse : st = eb
   case neg =>
     have hse1 : ((st : Int) != (eb : Int)) = true := by simp; omega
     have hse2 : (st != eb) = true := by simpa using hse
     have HSI2 : Hid (upTo (enterRX p k a o) (retL p.toPb ea) t2 (i + 1) = t3) := by
       show _ = _
       rw [HSI.out]
       unfold enterRX
       rw [HRA.out, HEB.out, Int.toNat_natCast, Int.toNat_natCast, HST.out, if_neg hse]
     clear hse
     go_upto_region 12 with fail
     go_quiet (fail)
     go_wp2_with fail
     exact ⟨⟨i + 1, O6, G6, by omega, by go_num, Lib.hid ((MQ.out.call (drewN_below _ _ _)).eq HSI2.out.symm), Lib.hid (FQ.out.trans (.same ((Kept.refl _ _).drewN _))), Lib.hid (FQ5.out.trans (.same ((Kept.refl _ _).drewN _)))⟩, by simp [intOf]; omega⟩
   subst hse
   go_upto_region 12 with fail
   go_quiet (fail)
   go_upto_region 13 with fail
   refine wp_named (fun X => Kept [] wq X) (by first | exact (Kept.refl _ _).drewN _ | exact Kept.refl _ _) ?_
   rintro V6 hkV6
   have MV6 := Lib.hid (MQ.out.call hkV6.toBelow)
   have FV6 := Lib.hid (FQ.out.trans (.same hkV6))
   have FV65 := Lib.hid (FQ5.out.trans (.same hkV6))
   have B6 := MV6.out.box
   unfold sbox at B6
   have ⟨L6, C6, F6b⟩ := B6
   clear CQ FQb Ceq Feq r6 hl6 q2a q3 e2 MQ FQ FQ5
   go_upto_region 14 with (go_at_call 170; refine (ends_any _ ra o HOX.out HI.out HWi.out MV6.out (HK0.out.fx FV6.out) hra2 (by omega)).mono ?_; rintro e w8 ⟨A8, n8, c8, rfl, hs8, hf8, hb8⟩)
   have M8 := Lib.hid (MV6.out.call hb8)
   have F8 := Lib.hid (FV6.out.call hb8)
   have F85 := Lib.hid (FV65.out.call hb8)
   have HS8 : Hid (SInO O6 w8 A8 n8 c8 (ofNats (endsX p t3 ra o))) := Lib.hid (SInO.new hs8 hf8 (fun x hx => (MV6.out.og x hx).2))
   have hn8 : n8 = (endsX p t3 ra o).length := by have := hs8.1.1; rw [ofNats_len] at this; exact this.symm
   have hn8b : n8 ≤ c8 ∧ c8 ≤ 9223372036854775807 := ⟨hs8.2.1, hs8.2.2.1⟩
   have hn8c := hn8b.1
   have hn8d := hn8b.2
   have HN8 := Lib.hid hn8
   clear hs8 hf8 hn8 hn8b C6 F6b MV6 FV6 FV65
   go_wp2_with fail
   go_loopw [103] (fun s103 wz => ∃ (x : Nat) (O' : Nat → Prop) (G' : Gh), x ≤ n8 ∧ s103 = .int .i64 x ∧ Hid (Mem p.toPb K w0 b O' G' wz (upTo (fun s f => spread p.toPb r a f s) (endsX p t3 ra o) t3 x)) ∧ Hid (Fx O O' V0 wz) ∧ Hid (Fx O5 O' V5 wz) ∧ Hid (Fx O6 O' w8 wz)) (fun s103 _ => n8 - (intOf s103).toNat)
   case atStart => exact ⟨0, O6, G6, Nat.zero_le _, rfl, by rw [upTo_zero]; exact M8, F8, F85, Lib.hid (Fx.refl _ _)⟩
   case round =>
   rename World => wz
   clear M8 F8 F85
   obtain ⟨x, O9, G9, hx8, rfl, MZ, FZ, FZ5, FZ8⟩ := hrel
   by_cases hlt8 : x < n8
   case neg =>
     obtain rfl : x = n8 := by omega
     go_wp2_with fail
     refine ⟨⟨i + 1, O9, G9, by omega, by go_num, Lib.hid (MZ.out.eq ?_), FZ, FZ5⟩, by simp [intOf]; omega⟩
     rw [HSI.out]
     unfold enterRX
     rw [HRA.out, HEB.out, Int.toNat_natCast, Int.toNat_natCast, HST.out, if_pos rfl, HN8.out, upTo_all]
   obtain ⟨b9, o9, rfl, hl9, hx9, r9⟩ := sin_at (HS8.out.fx FZ8.out) hlt8
   obtain ⟨f, hf⟩ : ∃ f, (endsX p t3 ra o)[x] = f := ⟨_, rfl⟩
   rw [hf] at r9
   have hx1 : (x : Int) < (n8 : Int) := by omega
   have HWx := Lib.hid (upTo_keep (Q := Wf p.toPb) (s := t3) (l := endsX p t3 ra o) (f := fun s f => spread p.toPb r a f s) x (fun f _ u hu => spread_wf HO.out hrk ha hu) HWi.out)
   have HSX : Hid (upTo (fun s f => spread p.toPb r a f s) (endsX p t3 ra o) t3 (x + 1) = spread p.toPb r a f (upTo (fun s f => spread p.toPb r a f s) (endsX p t3 ra o) t3 x)) := by
     show _ = _
     rw [upTo_succ _ _ _ hx9, hf]
   clear hf
   go_wp2_with (go_at_call 134; refine (spread_any _ r a f HI.out HO.out HWx.out MZ.out hrk ha).mono ?_; intro e wy hGy; obtain ⟨Oy, Gy, rfl, My, Fy⟩ := hGy)
   exact ⟨⟨x + 1, Oy, Gy, by omega, by go_num, Lib.hid (My.eq HSX.out.symm), Lib.hid (FZ.out.trans Fy), Lib.hid (FZ5.out.trans Fy), Lib.hid (FZ8.out.trans Fy)⟩, by simp [intOf]; omega⟩
 · have hkv1 := HK0.out.yes
   obtain ⟨L, hL⟩ : ∃ L, p.kn = some L := by
     cases h : p.kn with
     | none => exact absurd h hkn
     | some L => exact ⟨L, rfl⟩
   obtain ⟨kb, -, -, hkv, -⟩ := hkv1 L hL
   have BK := MV1.out.box
   unfold sbox at BK
   rw [hkv] at BK
   have ⟨LBK, CBK, FBK⟩ := BK
   have HKN := Lib.hid hkn
   clear hkv1 hkv hL hkn
   go_upto_region 7 with (go_at_call 51; refine (add_any _ eb o o HI.out HO.out HWj.out MV1.out heb2 hoF hoF).mono ?_; intro e w2 hG2; obtain ⟨O2, G2, rfl, M2', F2'⟩ := hG2)
   clear CBK FBK
   have M2 := Lib.hid M2'
   have F2 := Lib.hid (FV1.out.trans F2')
   have HW2 := Lib.hid (HWj.out.add heb2 hoF hoF)
   obtain ⟨t1, ht1⟩ : ∃ t1, t1 = t0.add eb o o := ⟨_, rfl⟩
   rw [← ht1] at M2 HW2
   have HT1 : Hid (t1 = addE p k o t0) := by show _ = _; unfold addE; rw [if_neg HKN.out, HEB.out, Int.toNat_natCast, ht1]
   clear Ce1 Fe1 Cg Fg ht1 M2' F2'
   have B2 := M2.out.box
   unfold sbox at B2
   have ⟨LB2, CB2, FB2⟩ := B2
   obtain ⟨A, kk, c, l, hv, hbt, hkk, hA, hsf, hhas⟩ := M2.out.ebits k o hkK
   obtain ⟨bm, hbm⟩ := M2.out.esm k hkK
   have r9 : w2.cell? ⟨K.er, k, none⟩ = some (.map (some bm)) := by have := M2.out.ent.cell hkK; rwa [hbm] at this
   have ler : K.er < w2.heap.size := (M2.out.og _ M2.out.oe).2
   have hkK1 : (k : Int) < (K.n2 : Int) := by omega
   have HBM := Lib.hid hbm
   have HV := Lib.hid hv
   have HBT := Lib.hid hbt
   have HH := Lib.hid hhas
   have HA := Lib.hid hA
   have hhd := hhas a
   clear hbt hsf hhas hA hv hbm
   cases hh : t1.e k o a with
   | true =>
     rw [hh] at hhd
     have HSU : Hid (upTo (fun s q => enter1X p k a q.o.toNat s) (froms (gf p.fl k) d) s (j + 1) = t1) := by
       show _ = _
       rw [HSU0.out]
       unfold enter1X
       rw [← HT1.out, if_pos hh]
     clear hh
     go_wp2_with (go_at_call 89; refine (insert_has K.er K.n2 k o a bm G2.em G2.ec G2.ev A kk c l _ M2.out.ent hkK HBM.out (by omega) (by omega) HV.out HBT.out hhd).mono ?_; rintro e w4 ⟨rfl, rfl⟩)
     exact ⟨⟨j + 1, O2, G2, by omega, by go_num, Lib.hid (M2.out.eq HSU.out.symm), F2⟩, by simp [intOf]; omega⟩
   | false =>
   rw [hh] at hhd
   have HH0 := Lib.hid hh
   have hcn : G2.ec k < maxLen := by
     have h1 := M2.out.ecb k hkK
     have h3 := trip_le (N := p.es.length) (F := p.F.toNat) (by omega) (by omega)
     unfold maxLen
     omega
   clear hh
   go_upto_region 8 with (go_at_call 89; refine (insert_new K.er K.n2 k o a bm G2.em G2.ec G2.ev A kk c l _ M2.out.ent hkK HBM.out (by omega) (by omega) HV.out HBT.out hkk HA.out hcn hhd).mono ?_; rintro e w5 ⟨w4, A2, k2, l2, rfl, hb4, hbt2, hhas2, hk2, hfr2, hA2, hput⟩)
   have M4 := Lib.hid (M2.out.call hb4)
   have F4 := Lib.hid (F2.out.call hb4)
   have HBV : Hid (BtV O2 w4 (.slice A2 k2 k2) (fun y => t1.e k o y || y == a)) := Lib.hid ⟨A2, k2, k2, l2, rfl, hbt2, hk2, hA2, fun _ x hx => ⟨(hfr2 x hx).2, fun hox => by have h1 := M2.out.og _ hox; have h2 := (hfr2 x hx).1; omega⟩, fun x => by rw [hhas2, HH.out]⟩
   obtain ⟨O5, G5, -, M5', F5'⟩ := M4.out.put_ent HM1.out hkK hoF ha HH0.out HBV.out hput
   clear CB2 FB2 hbt2 hhas2 hfr2 hA2 HBT HA M2 F2 hput r9
   have M5 := Lib.hid M5'
   have F5 := Lib.hid (F4.out.trans F5')
   have HW5 := Lib.hid (HW2.out.ent (b := o) ha hk HKD.out)
   have B5 := M5.out.box
   unfold sbox at B5
   have ⟨L5, C5, F5b⟩ := B5
   have ⟨Le5, Ce5, Fe5⟩ := SB.out.blk F5.out HB0.out
   have hea1 : ea < K.n1 := by rw [HN1.out]; exact hea2
   have hea1' : (ea : Int) < (K.n1 : Int) := by omega
   obtain ⟨A6, n6, c6, r6, hs6⟩ := M5.out.rets.2 ea hea1
   have hrr5 : K.rr < w5.heap.size := M5.out.rets.1.1
   have HS6 := Lib.hid hs6
   have hn6 : n6 = (retL p.toPb ea).length := by have := hs6.1.1.1; rw [ofNats_len] at this; exact this.symm
   have hn6b : n6 ≤ 32768 := by
     have h1 : (retL p.toPb ea).length ≤ (List.range p.es.length).length := List.length_filter_le _ _
     rw [List.length_range] at h1
     omega
   have HN6 := Lib.hid hn6
   obtain ⟨t2, ht2⟩ : ∃ t2, t2 = t1.ent k o a := ⟨_, rfl⟩
   rw [← ht2] at M5 HW5
   have HSU : Hid (upTo (fun s q => enter1X p k a q.o.toNat s) (froms (gf p.fl k) d) s (j + 1) = (retL p.toPb ea).foldl (enterRX p k a o) t2) := by
     show _ = _
     rw [HSU0.out]
     unfold enter1X
     rw [← HT1.out, if_neg (by rw [HH0.out]; simp), HEA.out, Int.toNat_natCast, ht2]
   clear M5' F5' hs6 hn6 ht2 HBV M4 F4
   go_quiet (fail)
   refine then_named (fun X => Kept [] w5 X) (by first | exact (Kept.refl _ _).drewN _ | exact Kept.refl _ _) ?_
   rintro V5 hkV5
   have MV5 := Lib.hid (M5.out.call hkV5.toBelow)
   have FV5 := Lib.hid (F5.out.trans (.same hkV5))
   have HS6V := Lib.hid (HS6.out.fx (.same hkV5))
   clear C5 F5b Ce5 Fe5 r6 HS6 M5 F5
   go_wp2_with fail
   go_loopw [74] (fun s74 wq => ∃ (i : Nat) (O' : Nat → Prop) (G' : Gh), i ≤ n6 ∧ s74 = .int .i64 i ∧ Hid (Mem p.toPb K w0 b O' G' wq (upTo (enterRX p k a o) (retL p.toPb ea) t2 i)) ∧ Hid (Fx O O' V0 wq) ∧ Hid (Fx O5 O' V5 wq)) (fun s74 _ => n6 - (intOf s74).toNat)
   case atStart => exact ⟨0, O5, G5, Nat.zero_le _, rfl, by rw [upTo_zero]; exact MV5, FV5, Lib.hid (Fx.refl _ _)⟩
   case round =>
   rename World => wq
   clear MV5 FV5
   obtain ⟨i, O6, G6, hi6, rfl, MQ, FQ, FQ5⟩ := hrel
   by_cases hlt6 : i < n6
   case neg =>
     obtain rfl : i = n6 := by omega
     go_wp2_with fail
     exact ⟨⟨j + 1, O6, G6, by omega, by go_num, Lib.hid (MQ.out.eq (by rw [HSU.out, HN6.out, upTo_all])), FQ⟩, by simp [intOf]; omega⟩
   have BQ := MQ.out.box
   unfold sbox at BQ
   have ⟨LQ, CQ, FQb⟩ := BQ
   have ⟨Leq, Ceq, Feq⟩ := SB.out.blk FQ.out HB0.out
   obtain ⟨b6, o6, rfl, hl6, hi6', r6⟩ := sin_at (HS6V.out.fx FQ5.out) hlt6
   obtain ⟨r, hr⟩ : ∃ r, (retL p.toPb ea)[i] = r := ⟨_, rfl⟩
   have hrm : r ∈ retL p.toPb ea := by rw [← hr]; exact List.getElem_mem hi6'
   have hrk := (retL_mem.1 hrm).1
   rw [hr] at r6
   have hi1 : (i : Int) < (n6 : Int) := by omega
   obtain ⟨b2, o2, ra, rb, -, e2, -, hl2, hr2, hra, hrb, hra2, hrb2, q2a, -, -, -, -⟩ := HI.out.edge HO.out MQ.out.low hrk
   have HRA := Lib.hid hra
   have hra1 : ra < K.n1 := by rw [HN1.out]; exact hra2
   have hra1' : (ra : Int) < (K.n1 : Int) := by omega
   have q3 := MQ.out.start.2 ra hra1
   have hsb := MQ.out.start.1.1
   obtain ⟨st, hst⟩ : ∃ st, stOf p.ns ra = st := ⟨_, rfl⟩
   rw [hst] at q3
   have HST := Lib.hid hst
   have HWi := Lib.hid (upTo_keep (Q := Wf p.toPb) (s := t2) (l := retL p.toPb ea) (f := enterRX p k a o) i (enterRX_wf HO.out ha) HW5.out)
   have HSI : Hid (upTo (enterRX p k a o) (retL p.toPb ea) t2 (i + 1) = enterRX p k a o (upTo (enterRX p k a o) (retL p.toPb ea) t2 i) r) := by
     show _ = _
     rw [upTo_succ _ _ _ hi6', hr]
   have HRM := Lib.hid hrm
   obtain ⟨t3, ht3⟩ : ∃ t3, t3 = upTo (enterRX p k a o) (retL p.toPb ea) t2 i := ⟨_, rfl⟩
   rw [← ht3] at MQ HWi HSI
   clear hr hra hrb hst ht3 hrm
   by_cases hse : st = eb
   case neg =>
     have hse1 : ((st : Int) != (eb : Int)) = true := by simp; omega
     have hse2 : (st != eb) = true := by simpa using hse
     have HSI2 : Hid (upTo (enterRX p k a o) (retL p.toPb ea) t2 (i + 1) = t3) := by
       show _ = _
       rw [HSI.out]
       unfold enterRX
       rw [HRA.out, HEB.out, Int.toNat_natCast, Int.toNat_natCast, HST.out, if_neg hse]
     clear hse
     go_upto_region 12 with fail
     go_quiet (fail)
     go_wp2_with fail
     exact ⟨⟨i + 1, O6, G6, by omega, by go_num, Lib.hid ((MQ.out.call (drewN_below _ _ _)).eq HSI2.out.symm), Lib.hid (FQ.out.trans (.same ((Kept.refl _ _).drewN _))), Lib.hid (FQ5.out.trans (.same ((Kept.refl _ _).drewN _)))⟩, by simp [intOf]; omega⟩
   subst hse
   go_upto_region 12 with fail
   go_quiet (fail)
   go_upto_region 13 with fail
   refine wp_named (fun X => Kept [] wq X) (by first | exact (Kept.refl _ _).drewN _ | exact Kept.refl _ _) ?_
   rintro V6 hkV6
   have MV6 := Lib.hid (MQ.out.call hkV6.toBelow)
   have FV6 := Lib.hid (FQ.out.trans (.same hkV6))
   have FV65 := Lib.hid (FQ5.out.trans (.same hkV6))
   have B6 := MV6.out.box
   unfold sbox at B6
   have ⟨L6, C6, F6b⟩ := B6
   clear CQ FQb Ceq Feq r6 hl6 q2a q3 e2 MQ FQ FQ5
   go_upto_region 14 with (go_at_call 170; refine (ends_any _ ra o HOX.out HI.out HWi.out MV6.out (HK0.out.fx FV6.out) hra2 (by omega)).mono ?_; rintro e w8 ⟨A8, n8, c8, rfl, hs8, hf8, hb8⟩)
   have M8 := Lib.hid (MV6.out.call hb8)
   have F8 := Lib.hid (FV6.out.call hb8)
   have F85 := Lib.hid (FV65.out.call hb8)
   have HS8 : Hid (SInO O6 w8 A8 n8 c8 (ofNats (endsX p t3 ra o))) := Lib.hid (SInO.new hs8 hf8 (fun x hx => (MV6.out.og x hx).2))
   have hn8 : n8 = (endsX p t3 ra o).length := by have := hs8.1.1; rw [ofNats_len] at this; exact this.symm
   have hn8b : n8 ≤ c8 ∧ c8 ≤ 9223372036854775807 := ⟨hs8.2.1, hs8.2.2.1⟩
   have hn8c := hn8b.1
   have hn8d := hn8b.2
   have HN8 := Lib.hid hn8
   clear hs8 hf8 hn8 hn8b C6 F6b MV6 FV6 FV65
   go_wp2_with fail
   go_loopw [103] (fun s103 wz => ∃ (x : Nat) (O' : Nat → Prop) (G' : Gh), x ≤ n8 ∧ s103 = .int .i64 x ∧ Hid (Mem p.toPb K w0 b O' G' wz (upTo (fun s f => spread p.toPb r a f s) (endsX p t3 ra o) t3 x)) ∧ Hid (Fx O O' V0 wz) ∧ Hid (Fx O5 O' V5 wz) ∧ Hid (Fx O6 O' w8 wz)) (fun s103 _ => n8 - (intOf s103).toNat)
   case atStart => exact ⟨0, O6, G6, Nat.zero_le _, rfl, by rw [upTo_zero]; exact M8, F8, F85, Lib.hid (Fx.refl _ _)⟩
   case round =>
   rename World => wz
   clear M8 F8 F85
   obtain ⟨x, O9, G9, hx8, rfl, MZ, FZ, FZ5, FZ8⟩ := hrel
   by_cases hlt8 : x < n8
   case neg =>
     obtain rfl : x = n8 := by omega
     go_wp2_with fail
     refine ⟨⟨i + 1, O9, G9, by omega, by go_num, Lib.hid (MZ.out.eq ?_), FZ, FZ5⟩, by simp [intOf]; omega⟩
     rw [HSI.out]
     unfold enterRX
     rw [HRA.out, HEB.out, Int.toNat_natCast, Int.toNat_natCast, HST.out, if_pos rfl, HN8.out, upTo_all]
   obtain ⟨b9, o9, rfl, hl9, hx9, r9⟩ := sin_at (HS8.out.fx FZ8.out) hlt8
   obtain ⟨f, hf⟩ : ∃ f, (endsX p t3 ra o)[x] = f := ⟨_, rfl⟩
   rw [hf] at r9
   have hx1 : (x : Int) < (n8 : Int) := by omega
   have HWx := Lib.hid (upTo_keep (Q := Wf p.toPb) (s := t3) (l := endsX p t3 ra o) (f := fun s f => spread p.toPb r a f s) x (fun f _ u hu => spread_wf HO.out hrk ha hu) HWi.out)
   have HSX : Hid (upTo (fun s f => spread p.toPb r a f s) (endsX p t3 ra o) t3 (x + 1) = spread p.toPb r a f (upTo (fun s f => spread p.toPb r a f s) (endsX p t3 ra o) t3 x)) := by
     show _ = _
     rw [upTo_succ _ _ _ hx9, hf]
   clear hf
   go_wp2_with (go_at_call 134; refine (spread_any _ r a f HI.out HO.out HWx.out MZ.out hrk ha).mono ?_; intro e wy hGy; obtain ⟨Oy, Gy, rfl, My, Fy⟩ := hGy)
   exact ⟨⟨x + 1, Oy, Gy, by omega, by go_num, Lib.hid (My.eq HSX.out.symm), Lib.hid (FZ.out.trans Fy), Lib.hid (FZ5.out.trans Fy), Lib.hid (FZ8.out.trans Fy)⟩, by simp [intOf]; omega⟩
end Go.Proofs.YtooejoajojanjaaGreatDoor
