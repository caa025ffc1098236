/- Texts: Zk Za Md Me. -/
import Derived.Test.YtooejoajojanjaaGreatDoorXSf10
import Derived.Test.YtooejoajojanjaaGreatDoorXSf04
import Derived.Test.YtooejoajojanjaaGreatDoorXSf03
import Derived.Test.YtooejoajojanjaaGreatDoorXSf08
namespace Go.Df.If
theorem leaveR_wf {p : Pb} (ho : Ok p) {n d : Nat} {cs : List Nat} (hc : ∀ a ∈ cs, a < p.F.toNat) {m : Nat} : ∀ r ∈ retL p m, ∀ t, Wf p t → Wf p (leaveR p n d cs t r) := fun r hr t ht => by
 unfold leaveR
 split
 · exact fold_keep (Q := Wf p) _ t (fun a ha u hu => spread_wf ho (retL_mem.1 hr).1 (hc a ha) hu) ht
 · exact ht
theorem leave1_wf {p : Pb} (ho : Ok p) {n b d : Nat} (k : Nat) : ∀ t, Wf p t → Wf p (leave1 p n b d t k) := fun t ht =>
 fold_keep (Q := Wf p) _ t (leaveR_wf ho (fun _ ha => (elems_mem.1 ha).1)) ht
end Go.Df.If
namespace Go.Proofs.YtooejoajojanjaaGreatDoor
open Go.RowKit Go.Df Go.Df.If
attribute [local go_sem ↓] Go.wp_at_zero Go.wp_at_succ
theorem sin_at {O : Nat → Prop} {w : World} {A : Option Addr} {n c : Nat} {l : List Nat} (h : SInO O w A n c (ofNats l)) {i : Nat} (hi : i < n) : ∃ b6 o6, A = some ⟨b6, o6, none⟩ ∧ b6 < w.heap.size ∧ ∃ h' : i < l.length, w.cell? ⟨b6, o6 + i, none⟩ = some (.int .i64 (l[i] : Nat)) := by
 obtain ⟨b6, o6, e, hl, hc⟩ := h.1.1.2 (by omega)
 have h' : i < l.length := by have := h.1.1.1; rw [ofNats_len] at this; omega
 refine ⟨b6, o6, e, hl, h', ?_⟩
 rw [hc i hi, gi_ofNats h']
theorem elems_list {p : Pb} {s : St} (hw : Wf p s) {n b : Nat} {l : List Nat} (h : ∀ x, hasB l x = s.h n b x) : elemsB l (l.length * 64) = elems p.F.toNat (s.h n b) := elemsB_eq h (fun _ hx => (hw.rng _ _ _ hx).2.2)
theorem ent_list {p : Pb} {s : St} (hw : Wf p s) {k b : Nat} {l : List Nat} (h : ∀ x, hasB l x = s.e k b x) : elemsB l (l.length * 64) = elems p.F.toNat (s.e k b) := elemsB_eq h (fun _ hx => (hw.ee _ _ _ hx).1)
set_option maxRecDepth 100000 in
set_option maxHeartbeats 100000000 in
theorem leave_any {p : Pb} {K : Kn} {w0 : World} {b : Nat} {O : Nat → Prop} {G : Gh} {s : St} (w : World) (n c0 d : Nat) (hI : Inp p K w0) (ho : Ok p) (hw : Wf p s) (hm : Mem p K w0 b O G w s) (hn : n < p.ns.length) (hc : c0 ≤ 1000000) :
   Calls Tryz.prog 136 #[.pointer (some ⟨b, 0, none⟩), .int .i64 n, .int .i64 c0, .int .i64 d] w (GetMem p K w0 b O w (leave p n c0 d s)) := by
 have hF2 : p.F.toNat ≤ 1024 := by have := ho.f2; omega
 have hE2 : p.es.length ≤ 32768 := (sup_parts ho.sup).2.1
 have hN2 : p.ns.length ≤ 8192 := (sup_parts ho.sup).1
 have HN1 := Lib.hid hI.nd.1.symm
 have HM1 := Lib.hid hI.ed.1.symm
 have hn1 : n < K.n1 := by rw [HN1.out]; exact hn
 have hn1' : (n : Int) < (K.n1 : Int) := by omega
 have HM := Lib.hid hm
 have HW := Lib.hid hw
 have HI := Lib.hid hI
 have HO := Lib.hid ho
 have B0 := hm.box
 unfold sbox at B0
 have ⟨LB, CB, FB⟩ := B0
 have q3 := hm.start.2 n hn1
 have hsb := hm.start.1.1
 have hst2 : stOf p.ns n < K.n1 := by have := stOf_le p.ns n; omega
 obtain ⟨A6, n6, c6, r6, hs6⟩ := hm.calls.2 (stOf p.ns n) hst2
 have hrc := hm.calls.1.1
 have HS6 : Hid (SInO O w A6 n6 c6 (ofNats (callL p (stOf p.ns n)))) := Lib.hid hs6
 have hn6 : n6 = (callL p (stOf p.ns n)).length := by have := hs6.1.1.1; rw [ofNats_len] at this; exact this.symm
 have hn6b : n6 ≤ 32768 := by
   have h1 : (callL p (stOf p.ns n)).length ≤ (List.range p.es.length).length := List.length_filter_le _ _
   rw [List.length_range] at h1
   omega
 have HN6 := Lib.hid hn6
 obtain ⟨L, hL⟩ : ∃ L, L = callL p (stOf p.ns n) := ⟨_, rfl⟩
 obtain ⟨st, hst⟩ : ∃ st, stOf p.ns n = st := ⟨_, rfl⟩
 rw [hst] at q3 r6 hst2
 have hst2' : (st : Int) < (K.n1 : Int) := by omega
 rw [← hL] at HS6 HN6
 have HL := Lib.hid hL
 clear hm hw hI ho hs6 hn6 hst hL
 go_enter Tryz.func136, Tryz.ntmps136
 go_upto_region 0 with fail
 go_quiet (fail)
 refine then_named (fun X => Kept [] w X) (by first | exact (Kept.refl _ _).drewN _ | exact Kept.refl _ _) ?_
 rintro V0 hkV0
 have M0 := Lib.hid (HM.out.call hkV0.toBelow)
 have F0 : Hid (Fx O O w V0) := .same hkV0
 have HS60 := Lib.hid (HS6.out.fx F0.out)
 clear CB FB B0 LB q3 hsb r6 hrc HM HS6
 go_wp2_with fail
 go_loopw [29] (fun s29 wr => ∃ (j : Nat) (O' : Nat → Prop) (G' : Gh), j ≤ n6 ∧ s29 = .int .i64 j ∧ Hid (Mem p K w0 b O' G' wr (upTo (leave1 p n c0 d) L s j)) ∧ Hid (Fx O O' w wr) ∧ Hid (Fx O O' V0 wr)) (fun s29 _ => n6 - (intOf s29).toNat)
 case atStart => exact ⟨0, O, G, Nat.zero_le _, rfl, by rw [upTo_zero]; exact M0, F0, Lib.hid (Fx.refl _ _)⟩
 case round =>
 clear M0 F0
 obtain ⟨j, O1, G1, hj, rfl, MR, FR, FR0⟩ := hrel
 by_cases hlt : j < n6
 case neg =>
   obtain rfl : j = n6 := by omega
   go_wp2_with fail
   go_end0
   exact ⟨O1, G1, rfl, MR.out.eq (by rw [HN6.out, upTo_all, HL.out]; rfl), FR.out⟩
 have BR := MR.out.box
 unfold sbox at BR
 have ⟨LR, CR, FRb⟩ := BR
 obtain ⟨b6, o6, rfl, hl6, hj6, r6⟩ := sin_at (HS60.out.fx FR0.out) hlt
 obtain ⟨k, hk⟩ : ∃ k, L[j] = k := ⟨_, rfl⟩
 rw [hk] at r6
 have hkL : k ∈ L := by rw [← hk]; exact List.getElem_mem hj6
 have hke : k < p.es.length := by rw [HL.out] at hkL; exact (callL_mem.1 hkL).1
 have hkK : k < K.n2 := by rw [HM1.out]; exact hke
 have hj1 : (j : Int) < (n6 : Int) := by omega
 have HWj := Lib.hid (upTo_keep (Q := Wf p) (s := s) (l := L) (f := leave1 p n c0 d) j (fun k _ => leave1_wf HO.out k) HW.out)
 have HSJ : Hid (upTo (leave1 p n c0 d) L s (j + 1) = leave1 p n c0 d (upTo (leave1 p n c0 d) L s j) k) := by
   show _ = _
   rw [upTo_succ _ _ _ hj6, hk]
 obtain ⟨t0, ht0⟩ : ∃ t0, t0 = upTo (leave1 p n c0 d) L s j := ⟨_, rfl⟩
 rw [← ht0] at MR HWj HSJ
 obtain ⟨A, kk, c, l, hv, hbt, hkk, hA, hsf, hhas⟩ := MR.out.ebits k c0 hkK
 obtain ⟨bm, hbm⟩ := MR.out.esm k hkK
 have r9 : wr.cell? ⟨K.er, k, none⟩ = some (.map (some bm)) := by have := MR.out.ent.cell hkK; rwa [hbm] at this
 have ler : K.er < wr.heap.size := (MR.out.og _ MR.out.oe).2
 have hrun : (Instr.lookup 157 (.map (some bm)) (.int .i64 c0) false).run Tryz.prog wr = .ok (.slice A kk c) wr := by
   have := (MR.out.ent.is k bm hkK hbm).look Tryz.lawInt Tryz.mapIB (Tryz.zeroBits wr) (Tryz.keyInt (c0 : Int) (WalkArith.wf_i64 (by omega)))
   rwa [hv] at this
 have hkK1 : (k : Int) < (K.n2 : Int) := by omega
 have HBT := Lib.hid hbt
 have hel := ent_list HWj.out hhas
 rw [hbt.1] at hel
 have HEL := Lib.hid hel
 obtain ⟨b2, o2, ea, eb, -, e2, -, hl2, hk2, hea, heb, hea2, heb2, r2a, -, -, -, -⟩ := HI.out.edge HO.out MR.out.low hke
 have HEA := Lib.hid hea
 clear hbt hA hsf hhas hv hbm hel hk ht0 hkL hea heb e2 hl2 hk2 r2a
 go_upto_region 4 with (go_at_call 95; refine (blist_any A kk c l _ HBT.out hkk).mono ?_; rw [HEL.out]; rintro e w4 ⟨A8, n8, c8, rfl, hs8, hf8, hb8⟩)
 have M4 := Lib.hid (MR.out.call hb8)
 have F4 := Lib.hid (FR.out.call hb8)
 have F40 := Lib.hid (FR0.out.call hb8)
 clear r9 hrun
 have HS8 : Hid (SInO O1 w4 A8 n8 c8 (ofNats (elems p.F.toNat (t0.e k c0)))) := Lib.hid (SInO.new hs8 hf8 (fun x hx => (MR.out.og x hx).2))
 have hn8 : n8 = (elems p.F.toNat (t0.e k c0)).length := by have := hs8.1.1; rw [ofNats_len] at this; exact this.symm
 have hn8b : n8 ≤ 1024 := by
   have h1 : (elems p.F.toNat (t0.e k c0)).length ≤ (List.range p.F.toNat).length := List.length_filter_le _ _
   rw [List.length_range] at h1
   omega
 have HN8 := Lib.hid hn8
 have B4 := M4.out.box
 unfold sbox at B4
 have ⟨L4, C4, F4b⟩ := B4
 obtain ⟨b2, o2, ea', eb', -, e2, -, hl2, hk2, hea', heb', -, -, r2a, -, -, -, -⟩ := HI.out.edge HO.out M4.out.low hke
 obtain rfl : ea' = ea := by have := HEA.out; omega
 have hea1 : ea' < K.n1 := by rw [HN1.out]; exact hea2
 have hea1' : (ea' : Int) < (K.n1 : Int) := by omega
 obtain ⟨A7, n7, c7, r7, hs7⟩ := M4.out.rets.2 ea' hea1
 have hrr4 := M4.out.rets.1.1
 have HS7 := Lib.hid hs7
 have hn7 : n7 = (retL p ea').length := by have := hs7.1.1.1; rw [ofNats_len] at this; exact this.symm
 have hn7b : n7 ≤ 32768 := by
   have h1 : (retL p ea').length ≤ (List.range p.es.length).length := List.length_filter_le _ _
   rw [List.length_range] at h1
   omega
 have HN7 := Lib.hid hn7
 clear hs8 hf8 hn8 hea' heb' hs7 hn7 CR FRb r6 MR FR FR0 HBT
 go_quiet (fail)
 refine then_named (fun X => Kept [] w4 X) (by first | exact (Kept.refl _ _).drewN _ | exact Kept.refl _ _) ?_
 rintro V5 hkV5
 have MV5 := Lib.hid (M4.out.call hkV5.toBelow)
 have FV5 := Lib.hid (F4.out.trans (.same hkV5))
 have FV50 := Lib.hid (F40.out.trans (.same hkV5))
 have HS7V := Lib.hid (HS7.out.fx (.same hkV5))
 have HS8V := Lib.hid (HS8.out.fx (.same hkV5))
 clear C4 F4b r7 e2 r2a HS7 HS8 M4 F4 F40
 obtain ⟨cs, hcs⟩ : ∃ cs, cs = elems p.F.toNat (t0.e k c0) := ⟨_, rfl⟩
 rw [← hcs] at HS8V HN8
 have HCF : Hid (∀ a ∈ cs, a < p.F.toNat) := fun a ha => by rw [hcs] at ha; exact (elems_mem.1 ha).1
 have HCS := Lib.hid hcs
 clear hcs
 go_wp2_with fail
 go_loopw [60] (fun s60 wq => ∃ (i : Nat) (O' : Nat → Prop) (G' : Gh), i ≤ n7 ∧ s60 = .int .i64 i ∧ Hid (Mem p K w0 b O' G' wq (upTo (leaveR p n d cs) (retL p ea') t0 i)) ∧ Hid (Fx O O' w wq) ∧ Hid (Fx O O' V0 wq) ∧ Hid (Fx O1 O' V5 wq)) (fun s60 _ => n7 - (intOf s60).toNat)
 case atStart => exact ⟨0, O1, G1, Nat.zero_le _, rfl, by rw [upTo_zero]; exact MV5, FV5, FV50, Lib.hid (Fx.refl _ _)⟩
 case round =>
 rename World => wq
 clear MV5 FV5 FV50
 obtain ⟨i, O6, G6, hi7, rfl, MQ, FQ, FQ0, FQ5⟩ := hrel
 by_cases hlt7 : i < n7
 case neg =>
   obtain rfl : i = n7 := by omega
   go_wp2_with fail
   refine ⟨⟨j + 1, O6, G6, by omega, by go_num, Lib.hid (MQ.out.eq ?_), FQ, FQ0⟩, by simp [intOf]; omega⟩
   rw [HSJ.out]
   unfold leave1
   rw [HEA.out, Int.toNat_natCast, HN7.out, upTo_all, HCS.out]
 have BQ := MQ.out.box
 unfold sbox at BQ
 have ⟨LQ, CQ, FQb⟩ := BQ
 obtain ⟨b7, o7, rfl, hl7, hi7', r7⟩ := sin_at (HS7V.out.fx FQ5.out) hlt7
 obtain ⟨r, hr⟩ : ∃ r, (retL p ea')[i] = r := ⟨_, rfl⟩
 have hrm : r ∈ retL p ea' := by rw [← hr]; exact List.getElem_mem hi7'
 have hrk := (retL_mem.1 hrm).1
 rw [hr] at r7
 have hi1 : (i : Int) < (n7 : Int) := by omega
 obtain ⟨b2, o2, ra, rb, -, e2, -, hl2, hr2, hra, hrb, hra2, hrb2, q2a, -, -, -, -⟩ := HI.out.edge HO.out MQ.out.low hrk
 have HRA := Lib.hid hra
 have HWi := Lib.hid (upTo_keep (Q := Wf p) (s := t0) (l := retL p ea') (f := leaveR p n d cs) i (leaveR_wf HO.out HCF.out) HWj.out)
 have HSI : Hid (upTo (leaveR p n d cs) (retL p ea') t0 (i + 1) = leaveR p n d cs (upTo (leaveR p n d cs) (retL p ea') t0 i) r) := by
   show _ = _
   rw [upTo_succ _ _ _ hi7', hr]
 obtain ⟨t3, ht3⟩ : ∃ t3, t3 = upTo (leaveR p n d cs) (retL p ea') t0 i := ⟨_, rfl⟩
 rw [← ht3] at MQ HWi HSI
 clear hr hra hrb ht3 hrm
 by_cases hse : ra = n
 case neg =>
   have hse1 : ((ra : Int) != (n : Int)) = true := by simp; omega
   have hse2 : (ra != n) = true := by simpa using hse
   have HSI2 : Hid (upTo (leaveR p n d cs) (retL p ea') t0 (i + 1) = t3) := by
     show _ = _
     rw [HSI.out]
     unfold leaveR
     rw [HRA.out, Int.toNat_natCast, if_neg hse]
   clear hse
   go_wp2_with fail
   exact ⟨⟨i + 1, O6, G6, by omega, by go_num, Lib.hid (MQ.out.eq HSI2.out.symm), FQ, FQ0, FQ5⟩, by simp [intOf]; omega⟩
 subst hse
 have HS8Q := Lib.hid (HS8V.out.fx FQ5.out)
 go_wp2_with fail
 go_loopw [78] (fun s78 wz => ∃ (x : Nat) (O' : Nat → Prop) (G' : Gh), x ≤ n8 ∧ s78 = .int .i64 x ∧ Hid (Mem p K w0 b O' G' wz (upTo (fun s a => spread p r a d s) cs t3 x)) ∧ Hid (Fx O O' w wz) ∧ Hid (Fx O O' V0 wz) ∧ Hid (Fx O1 O' V5 wz) ∧ Hid (Fx O6 O' wq wz)) (fun s78 _ => n8 - (intOf s78).toNat)
 case atStart => exact ⟨0, O6, G6, Nat.zero_le _, rfl, by rw [upTo_zero]; exact MQ, FQ, FQ0, FQ5, Lib.hid (Fx.refl _ _)⟩
 case round =>
 rename World => wz
 clear MQ FQ FQ0 FQ5 CQ FQb r7 q2a e2
 obtain ⟨x, O9, G9, hx8, rfl, MZ, FZ, FZ0, FZ5, FZ6⟩ := hrel
 by_cases hlt8 : x < n8
 case neg =>
   obtain rfl : x = n8 := by omega
   go_wp2_with fail
   refine ⟨⟨i + 1, O9, G9, by omega, by go_num, Lib.hid (MZ.out.eq ?_), FZ, FZ0, FZ5⟩, by simp [intOf]; omega⟩
   rw [HSI.out]
   unfold leaveR
   rw [HRA.out, Int.toNat_natCast, if_pos rfl, HN8.out, upTo_all]
 obtain ⟨b9, o9, rfl, hl9, hx9, r9⟩ := sin_at (HS8Q.out.fx FZ6.out) hlt8
 obtain ⟨a, ha⟩ : ∃ a, cs[x] = a := ⟨_, rfl⟩
 have haF : a < p.F.toNat := by rw [← ha]; exact HCF.out _ (List.getElem_mem hx9)
 rw [ha] at r9
 have hx1 : (x : Int) < (n8 : Int) := by omega
 have HWx := Lib.hid (upTo_keep (Q := Wf p) (s := t3) (l := cs) (f := fun s a => spread p r a d s) x (fun a ha u hu => spread_wf HO.out hrk (HCF.out a ha) hu) HWi.out)
 have HSX : Hid (upTo (fun s a => spread p r a d s) cs t3 (x + 1) = spread p r a d (upTo (fun s a => spread p r a d s) cs t3 x)) := by
   show _ = _
   rw [upTo_succ _ _ _ hx9, ha]
 clear ha
 go_wp2_with (go_at_call 134; refine (spread_any _ r a d HI.out HO.out HWx.out MZ.out hrk haF).mono ?_; intro e wy hGy; obtain ⟨Oy, Gy, rfl, My, Fy⟩ := hGy)
 exact ⟨⟨x + 1, Oy, Gy, by omega, by go_num, Lib.hid (My.eq HSX.out.symm), Lib.hid (FZ.out.trans Fy), Lib.hid (FZ0.out.trans Fy), Lib.hid (FZ5.out.trans Fy), Lib.hid (FZ6.out.trans Fy)⟩, by simp [intOf]; omega⟩
end Go.Proofs.YtooejoajojanjaaGreatDoor
namespace Go.Df
open Go.RowKit Go.Maps Go.ChangeMaps
def MapQ (P : Program) (k : TypeId) (z : Value) (w : World) (b n : Nat) (f : Value → Value) : Prop :=
 ∃ D : DataW Value, w.ownsMap P k tokElem b n D ∧ ∀ key kl, keyOf P k key = some kl → D.atKey kl (.held z) = .held (f key)
theorem MapQ.made (P : Program) (k : TypeId) (z : Value) (w : World) (b : Nat) (hb : b = w.heap.size) : MapQ P k z (w.alloc (.map #[] 0)) b 0 (fun _ => z) := by
 subst hb
 exact ⟨_, World.ownsMap_made w P k _, fun _ _ _ => rfl⟩
theorem MapQ.lt {P : Program} {k : TypeId} {z : Value} {w : World} {b n : Nat} {f : Value → Value} (h : MapQ P k z w b n f) : b < w.heap.size :=
 let ⟨_, h1, _⟩ := h; h1.lt
theorem MapQ.same {P : Program} {k : TypeId} {z : Value} {w w' : World} {b n : Nat} {f : Value → Value} (h : MapQ P k z w b n f) (hk : w'.heap[b]? = w.heap[b]?) : MapQ P k z w' b n f := by
 obtain ⟨D, ⟨es, clock, h1, h2⟩, h3⟩ := h
 exact ⟨D, ⟨es, clock, hk.trans h1, h2⟩, h3⟩
theorem MapQ.kept {P : Program} {k : TypeId} {z : Value} {w w' : World} {b n : Nat} {f : Value → Value} {X : List Nat} (h : MapQ P k z w b n f) (hk : Kept X w w') (hX : b ∉ X) : MapQ P k z w' b n f :=
 h.same (hk.block b h.lt hX)
theorem MapQ.look {P : Program} {k e t : TypeId} {z : Value} {w : World} {b n : Nat} {f : Value → Value} (h : MapQ P k z w b n f) (K : Keyed P k) (ht : P.underlying t = some (.map k e)) (hz : (zeroValue e).run P w = .ok z w)
   {key : Value} {kl : Lit} (hkey : keyOf P k key = some kl) : (Instr.lookup t (.map (some b)) key false).run P w = .ok (f key) w := by
 obtain ⟨D, h1, h2⟩ := h
 obtain ⟨v, ps, hrun, hv⟩ := h1.lookup K ht hz (zd := .held z) (zp := []) rfl hkey
 rw [h2 key kl hkey] at hv
 unfold tokElem at hv
 injection hv with hv
 injection hv with hv _
 injection hv with hv
 rw [hrun, hv]
theorem MapQ.store {P : Program} {k e t : TypeId} {z : Value} {w : World} {b n : Nat} {f : Value → Value} (h : MapQ P k z w b n f) (K : Keyed P k) (ht : P.underlying t = some (.map k e)) (hn : n < maxLen)
   {key val : Value} {kl : Lit} (hkey : keyOf P k key = some kl) (g : Value → Value) (g1 : g key = val) (g2 : ∀ x, x ≠ key → g x = f x) :
   ∃ w', (Instr.mapUpdate t (.map (some b)) key val).run P w = .ok () w' ∧ MapQ P k z w' b (n + 1) g ∧ Kept [b] w w' := by
 obtain ⟨D, h1, h2⟩ := h
 have hm := h1.isMap
 obtain ⟨w', hrun, h3, hg⟩ := h1.update K ht hn hkey (d := .held val) (ps := []) rfl
 refine ⟨w', hrun, ⟨_, h3, fun key' kl' hk' => ?_⟩, ⟨hg.1, hg.2, hg.3, hg.4, fun j hj hx => hg.5 j hj (by simp at hx; intro hh; exact hx (by simpa using hh))⟩⟩
 by_cases hkk : key' = key
 · subst hkk
   obtain rfl : kl' = kl := by rw [hkey] at hk'; exact (Option.some.inj hk').symm
   rw [atKey_put_same hm (K.key hkey), g1]
 · have hne : kl' ≠ kl := fun hh => hkk (K.inj (by rw [← hh]; exact hk') hkey)
   rw [atKey_put_other hne, g2 _ hkk]
   exact h2 key' kl' hk'
end Go.Df
namespace Go.Df
open Go.RowKit
namespace If
open Sp
structure Px extends Pb where
 kn : Option (List Su)
 ini : List (Nat × Nat)
def endP (ns : List Nd) (L : List Su) (x : Nat) : List Pr := L.flatMap fun u => if u.f = (gn ns x).f then (if (gn ns x).k = 4 then u.y else u.x) else []
inductive PEx (p : Px) : Nat → Nat → Nat → Prop
 | ini {a n : Nat} : (n, a) ∈ p.ini → PEx p a n a
 | seed {s : Sd} : PEx p 0 s.n.toNat 0 → s ∈ p.sd → PEx p 0 s.n.toNat s.f.toNat
 | flow {a k : Nat} {q : Pr} : k < p.es.length → ((ge p.es k).k = 1 ∨ (ge p.es k).k = 5) → q ∈ gf p.fl k → PEx p a (ge p.es k).a.toNat q.i.toNat → PEx p a (ge p.es k).b.toNat q.o.toNat
 | call {a k : Nat} {q : Pr} : p.kn ≠ none → k < p.es.length → (ge p.es k).k = 2 → q ∈ gf p.fl k → PEx p a (ge p.es k).a.toNat q.i.toNat → PEx p q.o.toNat (ge p.es k).b.toNat q.o.toNat
 | ret {a c r : Nat} {q s : Pr} : p.kn = none → c < p.es.length → (ge p.es c).k = 2 → q ∈ gf p.fl c → r < p.es.length → ((ge p.es r).k = 3 ∨ (ge p.es r).k = 4) → s ∈ gf p.fl r → (ge p.es c).a = (ge p.es r).c →
     (gn p.ns (ge p.es c).b.toNat).f = (gn p.ns (ge p.es r).a.toNat).f → PEx p a (ge p.es c).a.toNat q.i.toNat → PEx p q.o.toNat (ge p.es r).a.toNat s.i.toNat → PEx p a (ge p.es r).b.toNat s.o.toNat
 | retk {a c r : Nat} {q s : Pr} {L : List Su} : p.kn = some L → c < p.es.length → (ge p.es c).k = 2 → q ∈ gf p.fl c → r < p.es.length → ((ge p.es r).k = 3 ∨ (ge p.es r).k = 4) → s ∈ gf p.fl r → (ge p.es c).a = (ge p.es r).c →
     (gn p.ns (ge p.es c).b.toNat).f = (gn p.ns (ge p.es r).a.toNat).f → ⟨q.o, s.i⟩ ∈ endP p.ns L (ge p.es r).a.toNat → PEx p a (ge p.es c).a.toNat q.i.toNat → PEx p a (ge p.es r).b.toNat s.o.toNat
structure OkX (p : Px) : Prop where
 ok : Ok p.toPb
 ini : ∀ x ∈ p.ini, x.1 < p.ns.length ∧ (x.2 : Int) < p.F
 kn : ∀ L, p.kn = some L → ∀ x, ∀ w ∈ endP p.ns L x, (0 ≤ w.i ∧ w.i < p.F) ∧ 0 ≤ w.o ∧ w.o < p.F
theorem PEx.rng {p : Px} (h : OkX p) {a n d : Nat} (hp : PEx p a n d) : n < p.ns.length ∧ (a : Int) < p.F ∧ (d : Int) < p.F := by
 have f1 := h.ok.f1
 induction hp with
 | ini hm => have := h.ini _ hm; exact ⟨this.1, this.2, this.2⟩
 | seed _ hs ih => have := h.ok.seed hs; exact ⟨by omega, by omega, by omega⟩
 | flow hk _ hq _ ih => have := h.ok.pair (by rw [h.ok.len]; exact hk) hq; have := sup_edge h.ok.sup hk; exact ⟨by omega, by omega, by omega⟩
 | call _ hk _ hq _ ih => have := h.ok.pair (by rw [h.ok.len]; exact hk) hq; have := sup_edge h.ok.sup hk; exact ⟨by omega, by omega, by omega⟩
 | ret _ hc _ _ hr _ hs _ _ _ _ ih1 ih2 => have := h.ok.pair (by rw [h.ok.len]; exact hr) hs; have := sup_edge h.ok.sup hr; exact ⟨by omega, by omega, by omega⟩
 | retk _ hc _ _ hr _ hs _ _ _ _ ih1 => have := h.ok.pair (by rw [h.ok.len]; exact hr) hs; have := sup_edge h.ok.sup hr; exact ⟨by omega, by omega, by omega⟩
structure CloX (p : Px) (T : Nat → Nat → Nat → Prop) : Prop where
 ini : ∀ x ∈ p.ini, T x.2 x.1 x.2
 seed : ∀ s ∈ p.sd, T 0 s.n.toNat 0 → T 0 s.n.toNat s.f.toNat
 flow : ∀ k, k < p.es.length → ((ge p.es k).k = 1 ∨ (ge p.es k).k = 5) → ∀ q ∈ gf p.fl k, ∀ a, T a (ge p.es k).a.toNat q.i.toNat → T a (ge p.es k).b.toNat q.o.toNat
 call : p.kn ≠ none → ∀ k, k < p.es.length → (ge p.es k).k = 2 → ∀ q ∈ gf p.fl k, ∀ a, T a (ge p.es k).a.toNat q.i.toNat → T q.o.toNat (ge p.es k).b.toNat q.o.toNat
 ret : p.kn = none → ∀ c, c < p.es.length → (ge p.es c).k = 2 → ∀ q ∈ gf p.fl c, ∀ r, r < p.es.length → ((ge p.es r).k = 3 ∨ (ge p.es r).k = 4) → ∀ s ∈ gf p.fl r, (ge p.es c).a = (ge p.es r).c → (gn p.ns (ge p.es c).b.toNat).f = (gn p.ns (ge p.es r).a.toNat).f →
   ∀ a, T a (ge p.es c).a.toNat q.i.toNat → T q.o.toNat (ge p.es r).a.toNat s.i.toNat → T a (ge p.es r).b.toNat s.o.toNat
 retk : ∀ L, p.kn = some L → ∀ c, c < p.es.length → (ge p.es c).k = 2 → ∀ q ∈ gf p.fl c, ∀ r, r < p.es.length → ((ge p.es r).k = 3 ∨ (ge p.es r).k = 4) → ∀ s ∈ gf p.fl r, (ge p.es c).a = (ge p.es r).c → (gn p.ns (ge p.es c).b.toNat).f = (gn p.ns (ge p.es r).a.toNat).f →
   ⟨q.o, s.i⟩ ∈ endP p.ns L (ge p.es r).a.toNat → ∀ a, T a (ge p.es c).a.toNat q.i.toNat → T a (ge p.es r).b.toNat s.o.toNat
theorem CloX.all {p : Px} {T : Nat → Nat → Nat → Prop} (h : CloX p T) {a n d : Nat} (hp : PEx p a n d) : T a n d := by
 induction hp with
 | ini hm => exact h.ini _ hm
 | seed _ hs ih => exact h.seed _ hs ih
 | flow hk hk2 hq _ ih => exact h.flow _ hk hk2 _ hq _ ih
 | call he hk hk2 hq _ ih => exact h.call he _ hk hk2 _ hq _ ih
 | ret he hc hc2 hq hr hr2 hs e1 e2 _ _ ih1 ih2 => exact h.ret he _ hc hc2 _ hq _ hr hr2 _ hs e1 e2 _ ih1 ih2
 | retk he hc hc2 hq hr hr2 hs e1 e2 hd _ ih1 => exact h.retk _ he _ hc hc2 _ hq _ hr hr2 _ hs e1 e2 hd _ ih1
def endsX (p : Px) (s : St) (x b : Nat) : List Nat := match p.kn with
 | none => elems p.F.toNat (s.h x b)
 | some L => (froms (endP p.ns L x) b).map fun w => w.o.toNat
def enterRX (p : Px) (k a b : Nat) (s : St) (r : Nat) : St :=
 if stOf p.ns (ge p.es r).a.toNat = (ge p.es k).b.toNat then (endsX p s (ge p.es r).a.toNat b).foldl (fun s f => spread p.toPb r a f s) s else s
def addE (p : Px) (k b : Nat) (s : St) : St := if p.kn = none then s else s.add (ge p.es k).b.toNat b b
def enter1X (p : Px) (k a b : Nat) (s : St) : St :=
 if (addE p k b s).e k b a = true then addE p k b s else (retL p.toPb (ge p.es k).a.toNat).foldl (enterRX p k a b) ((addE p k b s).ent k b a)
def enterX (p : Px) (k a d : Nat) (s : St) : St := (froms (gf p.fl k) d).foldl (fun s q => enter1X p k a q.o.toNat s) s
def stepEX (p : Px) (a d : Nat) (s : St) (k : Nat) : St := if (ge p.es k).k = 1 ∨ (ge p.es k).k = 5 then spread p.toPb k a d s else if (ge p.es k).k = 2 then enterX p k a d s else s
def stepX (p : Px) (n a d : Nat) (s : St) : St :=
 if p.kn = none ∧ ((gn p.ns n).k = 3 ∨ (gn p.ns n).k = 4) then leave p.toPb n a d ((outL p.toPb n).foldl (stepEX p a d) (stepA p.toPb n a d s)) else (outL p.toPb n).foldl (stepEX p a d) (stepA p.toPb n a d s)
theorem addE_le (p : Px) (k b : Nat) (s : St) : Le s (addE p k b s) := by
 unfold addE
 split
 · exact Le.refl _
 · exact s.add_le _ _ _
theorem addE_e (p : Px) (k b : Nat) (s : St) : (addE p k b s).e = s.e := by
 unfold addE
 split
 · rfl
 · exact s.add_e _ _ _
theorem enterRX_le (p : Px) (k a b : Nat) (s : St) (r : Nat) : Le s (enterRX p k a b s r) := by
 unfold enterRX
 split
 · exact fold_le (fun s f => spread_le p.toPb r a f s) _ s
 · exact Le.refl _
theorem enter1X_le (p : Px) (k a b : Nat) (s : St) : Le s (enter1X p k a b s) := by
 unfold enter1X
 split
 · exact addE_le p k b s
 · exact (addE_le p k b s).trans ((St.ent_le _ _ _ _).trans (fold_le (enterRX_le p k a b) _ _))
theorem enterX_le (p : Px) (k a d : Nat) (s : St) : Le s (enterX p k a d s) := fold_le (fun s _q => enter1X_le p k a _ s) _ s
theorem stepEX_le (p : Px) (a d : Nat) (s : St) (k : Nat) : Le s (stepEX p a d s k) := by
 unfold stepEX
 split
 · exact spread_le p.toPb k a d s
 · split
   · exact enterX_le p k a d s
   · exact Le.refl _
theorem stepX_le (p : Px) (n a d : Nat) (s : St) : Le s (stepX p n a d s) := by
 have h := (stepA_le p.toPb n a d s).trans (fold_le (stepEX_le p a d) (outL p.toPb n) (stepA p.toPb n a d s))
 unfold stepX
 split
 · exact h.trans (leave_le p.toPb n a d _)
 · exact h
structure SndX (p : Px) (s : St) : Prop where
 h : ∀ n a d, s.h n a d = true → PEx p a n d
 e : ∀ k b a, s.e k b a = true → k < p.es.length ∧ (ge p.es k).k = 2 ∧ ∃ q ∈ gf p.fl k, q.o.toNat = b ∧ PEx p a (ge p.es k).a.toNat q.i.toNat
theorem SndX.add {p : Px} {s : St} (h : SndX p s) {n a d : Nat} (hp : PEx p a n d) : SndX p (s.add n a d) := by
 unfold St.add
 split
 · exact h
 · refine ⟨fun n' a' d' h' => ?_, h.e⟩
   simp at h'
   rcases h' with h' | ⟨rfl, rfl, rfl⟩
   · exact h.h _ _ _ h'
   · exact hp
theorem spreadX_flow {p : Px} {k a d : Nat} (hk : k < p.es.length) (h1 : (ge p.es k).k = 1 ∨ (ge p.es k).k = 5) (hp : PEx p a (ge p.es k).a.toNat d) {s : St} (h : SndX p s) : SndX p (spread p.toPb k a d s) := by
 refine fold_keep (Q := SndX p) _ s (fun q hq t ht => ht.add ?_) h
 obtain ⟨h2, h3⟩ := mem_froms.1 hq
 exact .flow hk h1 h2 (by rw [h3, Int.toNat_natCast]; exact hp)
def dox (p : Px) (D : Nat → Nat → Nat → Prop) (x b d : Nat) : Prop := match p.kn with
 | none => D x b d
 | some L => ∃ w ∈ endP p.ns L x, w.i = (b : Int) ∧ w.o.toNat = d
theorem dox_mono {p : Px} {D D' : Nat → Nat → Nat → Prop} (h : ∀ x b d, D x b d → D' x b d) {x b d : Nat} (hd : dox p D x b d) : dox p D' x b d := by
 unfold dox at hd ⊢
 cases hk : p.kn with
 | none => rw [hk] at hd; exact h _ _ _ hd
 | some L => rw [hk] at hd; exact hd
theorem endsX_dox {p : Px} {s : St} {x b d : Nat} (h : d ∈ endsX p s x b) : dox p (fun x b d => s.h x b d = true) x b d := by
 unfold endsX at h
 unfold dox
 cases hk : p.kn with
 | none => rw [hk] at h; exact (elems_mem.1 h).2
 | some L =>
   rw [hk] at h
   obtain ⟨w, hw, rfl⟩ := List.mem_map.1 h
   exact ⟨w, (mem_froms.1 hw).1, (mem_froms.1 hw).2, rfl⟩
theorem dox_endsX {p : Px} {s : St} {D : Nat → Nat → Nat → Prop} {x b d : Nat} (hD : D x b d → s.h x b d = true ∧ d < p.F.toNat) (h : dox p D x b d) : d ∈ endsX p s x b := by
 unfold endsX
 unfold dox at h
 cases hk : p.kn with
 | none => rw [hk] at h; exact elems_mem.2 ⟨(hD h).2, (hD h).1⟩
 | some L =>
   rw [hk] at h
   obtain ⟨w, hw, h1, h2⟩ := h
   exact List.mem_map.2 ⟨w, mem_froms.2 ⟨hw, h1⟩, h2⟩
theorem spreadX_ret {p : Px} (ho : OkX p) {k r a b d : Nat} (hr : r < p.es.length) (hr2 : (ge p.es r).k = 3 ∨ (ge p.es r).k = 4) (he : k < p.es.length ∧ (ge p.es k).k = 2 ∧ ∃ q ∈ gf p.fl k, q.o.toNat = b ∧ PEx p a (ge p.es k).a.toNat q.i.toNat)
   (hc : (ge p.es r).c = (ge p.es k).a) (hf : stOf p.ns (ge p.es r).a.toNat = (ge p.es k).b.toNat) (hp : dox p (fun x b d => PEx p b x d) (ge p.es r).a.toNat b d) {s : St} (h : SndX p s) : SndX p (spread p.toPb r a d s) := by
 obtain ⟨hk, hk2, q0, hq0, hb, hp0⟩ := he
 have h1 := ho.ok.edge hr
 have h2 := ho.ok.edge hk
 have h3 := (ho.ok.nd.start_iff (x := (ge p.es r).a.toNat) (s := (ge p.es k).b.toNat) (by omega) (by omega) (ho.ok.call hk hk2).1).1 hf
 refine fold_keep (Q := SndX p) _ s (fun q hq t ht => ht.add ?_) h
 obtain ⟨h4, h5⟩ := mem_froms.1 hq
 unfold dox at hp
 cases hn : p.kn with
 | none =>
   rw [hn] at hp
   exact .ret hn hk hk2 hq0 hr hr2 h4 hc.symm h3 hp0 (by rw [h5, Int.toNat_natCast, hb]; exact hp)
 | some L =>
   rw [hn] at hp
   obtain ⟨w, hw, w1, w2⟩ := hp
   have h6 := ho.kn L hn _ w hw
   have h7 := ho.ok.pair (by rw [ho.ok.len]; exact hk) hq0
   have e : w = ⟨q0.o, q.i⟩ := by
     obtain ⟨wi, wo⟩ := w
     simp only [Pr.mk.injEq]
     dsimp only at w1 w2 h6
     exact ⟨by omega, by omega⟩
   rw [e] at hw
   exact .retk hn hk hk2 hq0 hr hr2 h4 hc.symm h3 hw hp0
theorem enterX_snd {p : Px} (ho : OkX p) {k a d : Nat} (hk : k < p.es.length) (hk2 : (ge p.es k).k = 2) (hp : PEx p a (ge p.es k).a.toNat d) {s : St} (h : SndX p s) : SndX p (enterX p k a d s) := by
 refine fold_keep (Q := SndX p) _ s (fun q hq t ht => ?_) h
 obtain ⟨h2, h3⟩ := mem_froms.1 hq
 have hp' : PEx p a (ge p.es k).a.toNat q.i.toNat := by rw [h3, Int.toNat_natCast]; exact hp
 have h4 : SndX p (addE p k q.o.toNat t) := by
   unfold addE
   split
   · exact ht
   · rename_i hne; exact ht.add (PEx.call hne hk hk2 h2 hp')
 unfold enter1X
 split
 · exact h4
 · have he : k < p.es.length ∧ (ge p.es k).k = 2 ∧ ∃ q' ∈ gf p.fl k, q'.o.toNat = q.o.toNat ∧ PEx p a (ge p.es k).a.toNat q'.i.toNat := ⟨hk, hk2, q, h2, rfl, hp'⟩
   refine fold_keep (Q := SndX p) _ _ (fun r hr t ht => ?_) ⟨h4.h, fun k' b' a' h' => ?_⟩
   · obtain ⟨r1, r2, r3⟩ := retL_mem.1 hr
     unfold enterRX
     split
     · rename_i hst
       refine fold_keep (Q := SndX p) _ _ (fun f hf u hu => ?_) ht
       refine spreadX_ret ho r1 r2 he ?_ hst (dox_mono (fun x b d hd => ht.h _ _ _ hd) (endsX_dox hf)) hu
       have := ho.ok.edge hk
       omega
     · exact ht
   · simp [St.ent] at h'
     rcases h' with h' | ⟨rfl, rfl, rfl⟩
     · exact h4.e _ _ _ h'
     · exact he
theorem leaveX_snd {p : Px} (ho : OkX p) (hn : p.kn = none) {n b d : Nat} (hp : PEx p b n d) {s : St} (h : SndX p s) : SndX p (leave p.toPb n b d s) := by
 refine fold_keep (Q := SndX p) _ s (fun k hk t ht => ?_) h
 obtain ⟨k1, k2, k3⟩ := callL_mem.1 hk
 refine fold_keep (Q := SndX p) _ t (fun r hr u hu => ?_) ht
 obtain ⟨r1, r2, r3⟩ := retL_mem.1 hr
 unfold leaveR
 split
 · rename_i hrn
   refine fold_keep (Q := SndX p) _ u (fun a ha v hv => ?_) hu
   have := ho.ok.edge k1
   refine spreadX_ret ho r1 r2 (ht.e _ _ _ (elems_mem.1 ha).2) (by omega) (by rw [hrn]; omega) ?_ hv
   unfold dox
   rw [hn, hrn]
   exact hp
 · exact hu
theorem stepX_snd {p : Px} (ho : OkX p) {n a d : Nat} (hp : PEx p a n d) {s : St} (h : SndX p s) : SndX p (stepX p n a d s) := by
 have h1 : SndX p (stepA p.toPb n a d s) := by
   unfold stepA
   split
   · rename_i h0
     obtain ⟨rfl, rfl⟩ := h0
     refine fold_keep (Q := SndX p) _ s (fun x hx t ht => ht.add ?_) h
     obtain ⟨h2, h3⟩ := seedL_mem.1 hx
     have e : x.n.toNat = n := by omega
     have := PEx.seed (p := p) (s := x) (by rw [e]; exact hp) h2
     rw [e] at this
     exact this
   · exact h
 have h2 : SndX p ((outL p.toPb n).foldl (stepEX p a d) (stepA p.toPb n a d s)) := by
   refine fold_keep (Q := SndX p) _ _ (fun k hk t ht => ?_) h1
   obtain ⟨k1, k2⟩ := outL_mem.1 hk
   have hp' : PEx p a (ge p.es k).a.toNat d := by rw [k2, Int.toNat_natCast]; exact hp
   unfold stepEX
   split
   · rename_i h3; exact spreadX_flow k1 h3 hp' ht
   · split
     · rename_i h3; exact enterX_snd ho k1 h3 hp' ht
     · exact ht
 unfold stepX
 split
 · rename_i h9; exact leaveX_snd ho h9.1 hp h2
 · exact h2
end If
end Go.Df
namespace Go.Df
open Go.RowKit
namespace If
open Sp
def CpRX (p : Px) (s : St) (D : Nat → Nat → Nat → Prop) : Prop := ∀ k b a, s.e k b a = true → ∀ r, r < p.es.length → ((ge p.es r).k = 3 ∨ (ge p.es r).k = 4) → (ge p.es r).c = (ge p.es k).a → stOf p.ns (ge p.es r).a.toNat = (ge p.es k).b.toNat → ∀ d, dox p D (ge p.es r).a.toNat b d → ∀ q ∈ gf p.fl r, q.i = d → s.h (ge p.es r).b.toNat a q.o.toNat = true
structure CpX (p : Px) (s : St) (D : Nat → Nat → Nat → Prop) : Prop where
 seed : ∀ n, D n 0 0 → ∀ x ∈ p.sd, x.n = n → s.h n 0 x.f.toNat = true
 flow : ∀ n a d, D n a d → ∀ k, k < p.es.length → ((ge p.es k).k = 1 ∨ (ge p.es k).k = 5) → (ge p.es k).a = n → ∀ q ∈ gf p.fl k, q.i = d → s.h (ge p.es k).b.toNat a q.o.toNat = true
 call : ∀ n a d, D n a d → ∀ k, k < p.es.length → (ge p.es k).k = 2 → (ge p.es k).a = n → ∀ q ∈ gf p.fl k, q.i = d → (p.kn ≠ none → s.h (ge p.es k).b.toNat q.o.toNat q.o.toNat = true) ∧ s.e k q.o.toNat a = true
 ret : CpRX p s D
theorem CpRX.mono {p : Px} {s t : St} {D : Nat → Nat → Nat → Prop} (h : CpRX p s D) (hl : Le s t) (he : t.e = s.e) : CpRX p t D := fun k b a hk r r1 r2 r3 r4 d hd q hq hi => hl.h _ _ _ (h k b a (by rw [← he]; exact hk) r r1 r2 r3 r4 d hd q hq hi)
theorem enterRX_e (p : Px) (k a b : Nat) (s : St) (r : Nat) : (enterRX p k a b s r).e = s.e := by
 unfold enterRX
 split
 · exact fold_e (fun s f => spread_e p.toPb r a f s) _ s
 · rfl
theorem endsX_le {p : Px} {s t : St} (hl : Le s t) {x b d : Nat} (h : d ∈ endsX p s x b) : d ∈ endsX p t x b := by
 unfold endsX at h ⊢
 cases hk : p.kn with
 | none => rw [hk] at h; exact elems_mem.2 ⟨(elems_mem.1 h).1, hl.h _ _ _ (elems_mem.1 h).2⟩
 | some L => rw [hk] at h; exact h
theorem enter1X_ret {p : Px} {k a b : Nat} {s : St} {D : Nat → Nat → Nat → Prop} (hk : k < p.es.length) (ho : OkX p) (hD : ∀ n a d, D n a d → s.h n a d = true ∧ d < p.F.toNat) (h : CpRX p s D) : CpRX p (enter1X p k a b s) D := by
 have hl := addE_le p k b s
 unfold enter1X
 split
 · exact h.mono hl (addE_e _ _ _ _)
 · have hl2 := hl.trans (St.ent_le (addE p k b s) k b a)
   have hl3 := hl2.trans (fold_le (enterRX_le p k a b) (retL p.toPb (ge p.es k).a.toNat) _)
   intro k' b' a' he r r1 r2 r3 r4 d hd q hq hi
   rw [fold_e (enterRX_e p k a b)] at he
   have he' : s.e k' b' a' = true ∨ (k' = k ∧ b' = b ∧ a' = a) := by
     simp [St.ent, addE_e] at he
     exact he
   rcases he' with he' | ⟨rfl, rfl, rfl⟩
   · exact hl3.h _ _ _ (h k' b' a' he' r r1 r2 r3 r4 d hd q hq hi)
   · have h1 := ho.ok.edge hk
     refine fold_has (enterRX_le p k' a' b') (Q := fun t => t.h (ge p.es r).b.toNat a' q.o.toNat = true) (fun _ _ h hq => h.h _ _ _ hq) (x := r) _ _ (retL_mem.2 ⟨r1, r2, by omega⟩) (fun t ht => ?_)
     unfold enterRX
     rw [if_pos r4]
     exact fold_has (fun s f => spread_le p.toPb r a' f s) (Q := fun t => t.h (ge p.es r).b.toNat a' q.o.toNat = true) (fun _ _ h hq => h.h _ _ _ hq) (x := d) _ _ (endsX_le (hl2.trans ht) (dox_endsX (hD _ _ _) hd)) (fun u _ => spread_has hq hi u)
theorem stepX_ent {p : Px} {n a d : Nat} (haF : (a : Int) < p.F) {s s1 s2 : St} (hS : ∀ k b a, s.e k b a = true → a < p.F.toNat ∧ k < p.es.length ∧ (ge p.es k).k = 2) (e1 : stepA p.toPb n a d s = s1) (e2 : (outL p.toPb n).foldl (stepEX p a d) s1 = s2) :
   ∀ k b a, s2.e k b a = true → a < p.F.toNat ∧ k < p.es.length ∧ (ge p.es k).k = 2 := by
 have s1e : s1.e = s.e := by
   rw [← e1]
   unfold stepA
   split
   · exact fold_e (fun s x => s.add_e _ _ _) _ s
   · rfl
 rw [← e2]
 refine fold_keep (Q := fun t => ∀ k b a, t.e k b a = true → a < p.F.toNat ∧ k < p.es.length ∧ (ge p.es k).k = 2) _ s1 (fun k' hk' t ht => ?_) (by rw [s1e]; exact hS)
 unfold stepEX
 split
 · rw [spread_e]; exact ht
 · split
   · rename_i hk2'
     refine fold_keep (Q := fun t => ∀ k b a, t.e k b a = true → a < p.F.toNat ∧ k < p.es.length ∧ (ge p.es k).k = 2) _ t (fun q' _ u hu => ?_) ht
     unfold enter1X
     split
     · rw [addE_e]; exact hu
     · rw [fold_e (enterRX_e p k' a _)]
       intro k'' b'' a'' h''
       simp [St.ent, addE_e] at h''
       rcases h'' with h'' | ⟨rfl, -, rfl⟩
       · exact hu _ _ _ h''
       · exact ⟨by omega, (outL_mem.1 hk').1, hk2'⟩
   · exact ht
theorem stepX_cp {p : Px} (ho : OkX p) {n a d : Nat} (haF : (a : Int) < p.F) {s : St} {D : Nat → Nat → Nat → Prop} (hD : ∀ n a d, D n a d → s.h n a d = true ∧ d < p.F.toNat) (hS : ∀ k b a, s.e k b a = true → a < p.F.toNat ∧ k < p.es.length ∧ (ge p.es k).k = 2) (h : CpX p s D) (D' : Nat → Nat → Nat → Prop) (hD' : ∀ x y z, D' x y z → D x y z ∨ (x = n ∧ y = a ∧ z = d)) :
   CpX p (stepX p n a d s) D' := by
 obtain ⟨s1, e1⟩ : ∃ s1, stepA p.toPb n a d s = s1 := ⟨_, rfl⟩
 obtain ⟨s2, e2⟩ : ∃ s2, (outL p.toPb n).foldl (stepEX p a d) s1 = s2 := ⟨_, rfl⟩
 obtain ⟨s3, e3⟩ : ∃ s3, stepX p n a d s = s3 := ⟨_, rfl⟩
 have l1 : Le s s1 := by rw [← e1]; exact stepA_le p.toPb n a d s
 have l2 : Le s1 s2 := by rw [← e2]; exact fold_le (stepEX_le p a d) _ _
 have l3 : Le s2 s3 := by
   rw [← e3, ← e2, ← e1]
   unfold stepX
   split
   · exact leave_le p.toPb n a d _
   · exact Le.refl _
 rw [e3]
 have l13 := l1.trans (l2.trans l3)
 have r2 : CpRX p s2 D := by
   have r1 : CpRX p s1 D := by
     refine CpRX.mono h.ret l1 ?_
     rw [← e1]
     unfold stepA
     split
     · exact fold_e (fun s x => s.add_e _ _ _) _ s
     · rfl
   have hd1 : ∀ n a d, D n a d → s1.h n a d = true ∧ d < p.F.toNat := fun n a d hd => ⟨l1.h _ _ _ (hD _ _ _ hd).1, (hD _ _ _ hd).2⟩
   rw [← e2]
   refine (fold_keep (Q := fun t => Le s1 t ∧ CpRX p t D) _ s1 (fun k hk t ht => ?_) ⟨Le.refl _, r1⟩).2
   obtain ⟨k1, k2⟩ := outL_mem.1 hk
   refine ⟨ht.1.trans (stepEX_le p a d t k), ?_⟩
   unfold stepEX
   split
   · exact ht.2.mono (spread_le p.toPb k a d t) (spread_e p.toPb k a d t)
   · split
     · refine (fold_keep (Q := fun t => Le s1 t ∧ CpRX p t D) _ t (fun q _ u hu => ?_) ht).2
       exact ⟨hu.1.trans (enter1X_le p k a _ u), enter1X_ret k1 ho (fun n a d hd => ⟨hu.1.h _ _ _ (hd1 _ _ _ hd).1, (hd1 _ _ _ hd).2⟩) hu.2⟩
     · exact ht.2
 have e23 : s3.e = s2.e := by
   rw [← e3, ← e2, ← e1]
   unfold stepX
   split
   · exact fold_e (leave1_e p.toPb n a d) _ _
   · rfl
 refine ⟨fun m hm x hx hxm => ?_, fun m b c hm k k1 k2 k3 q hq hi => ?_, fun m b c hm k k1 k2 k3 q hq hi => ?_, fun k b c hk r r1 r2' r3 r4 f hf q hq hi => ?_⟩
 · rcases hD' _ _ _ hm with hm | ⟨rfl, rfl, rfl⟩
   · exact l13.h _ _ _ (h.seed m hm x hx hxm)
   · refine (l2.trans l3).h _ _ _ ?_
     rw [← e1]
     unfold stepA
     rw [if_pos ⟨rfl, rfl⟩]
     exact fold_has (fun s x => s.add_le _ _ _) (Q := fun t => t.h m 0 x.f.toNat = true) (fun _ _ h hq => h.h _ _ _ hq) (x := x) _ s (seedL_mem.2 ⟨hx, hxm⟩) (fun t _ => St.add_has t _ _ _)
 · rcases hD' _ _ _ hm with hm | ⟨rfl, rfl, rfl⟩
   · exact l13.h _ _ _ (h.flow m b c hm k k1 k2 k3 q hq hi)
   · refine l3.h _ _ _ ?_
     rw [← e2]
     refine fold_has (stepEX_le p b c) (Q := fun t => t.h (ge p.es k).b.toNat b q.o.toNat = true) (fun _ _ h hq => h.h _ _ _ hq) (x := k) _ s1 (outL_mem.2 ⟨k1, k3⟩) (fun t _ => ?_)
     unfold stepEX
     rw [if_pos k2]
     exact spread_has hq hi t
 · rcases hD' _ _ _ hm with hm | ⟨rfl, rfl, rfl⟩
   · exact ⟨fun hn => l13.h _ _ _ ((h.call m b c hm k k1 k2 k3 q hq hi).1 hn), l13.e _ _ _ (h.call m b c hm k k1 k2 k3 q hq hi).2⟩
   · have : (p.kn ≠ none → s2.h (ge p.es k).b.toNat q.o.toNat q.o.toNat = true) ∧ s2.e k q.o.toNat b = true := by
       rw [← e2]
       refine fold_has (stepEX_le p b c) (Q := fun t => (p.kn ≠ none → t.h (ge p.es k).b.toNat q.o.toNat q.o.toNat = true) ∧ t.e k q.o.toNat b = true) (fun _ _ h hq => ⟨fun hn => h.h _ _ _ (hq.1 hn), h.e _ _ _ hq.2⟩) (x := k) _ s1 (outL_mem.2 ⟨k1, k3⟩) (fun t _ => ?_)
       unfold stepEX
       rw [if_neg (by omega), if_pos k2]
       refine fold_has (fun s q => enter1X_le p k b _ s) (Q := fun t => (p.kn ≠ none → t.h (ge p.es k).b.toNat q.o.toNat q.o.toNat = true) ∧ t.e k q.o.toNat b = true) (fun _ _ h hq => ⟨fun hn => h.h _ _ _ (hq.1 hn), h.e _ _ _ hq.2⟩) (x := q) _ t (mem_froms.2 ⟨hq, hi⟩) (fun u _ => ?_)
       have hadd : p.kn ≠ none → (addE p k q.o.toNat u).h (ge p.es k).b.toNat q.o.toNat q.o.toNat = true := fun hn => by
         unfold addE
         rw [if_neg hn]
         exact St.add_has _ _ _ _
       unfold enter1X
       split
       · rename_i h9; exact ⟨hadd, h9⟩
       · have l9 := fold_le (enterRX_le p k b q.o.toNat) (retL p.toPb (ge p.es k).a.toNat) ((addE p k q.o.toNat u).ent k q.o.toNat b)
         exact ⟨fun hn => l9.h _ _ _ (hadd hn), l9.e _ _ _ (by simp [St.ent])⟩
     exact ⟨fun hn => l3.h _ _ _ (this.1 hn), l3.e _ _ _ this.2⟩
 · rw [e23] at hk
   cases hkn : p.kn with
   | some L =>
     refine l3.h _ _ _ (r2 k b c hk r r1 r2' r3 r4 f ?_ q hq hi)
     unfold dox at hf ⊢
     rw [hkn] at hf ⊢
     exact hf
   | none =>
     have hf' : D' (ge p.es r).a.toNat b f := by unfold dox at hf; rw [hkn] at hf; exact hf
     rcases hD' _ _ _ hf' with hf2 | ⟨h5, h6, h7⟩
     · exact l3.h _ _ _ (r2 k b c hk r r1 r2' r3 r4 f (by unfold dox; rw [hkn]; exact hf2) q hq hi)
     · subst h6 h7
       have hrk := ho.ok.ret r1 r2'
       rw [h5] at hrk r4
       have hc : c < p.F.toNat ∧ k < p.es.length ∧ (ge p.es k).k = 2 := stepX_ent (s := s) haF hS e1 e2 _ _ _ hk
       have hke : k < p.es.length ∧ (ge p.es k).k = 2 ∧ 0 ≤ (ge p.es k).b ∧ 0 ≤ (ge p.es k).a := ⟨hc.2.1, hc.2.2, (ho.ok.edge hc.2.1).2.2.1, (ho.ok.edge hc.2.1).1⟩
       have hc := hc.1
       rw [← e3]
       unfold stepX
       rw [if_pos ⟨hkn, hrk⟩, e1, e2]
       refine fold_has (leave1_le p.toPb n b f) (Q := fun t => t.h (ge p.es r).b.toNat c q.o.toNat = true) (fun _ _ h hq => h.h _ _ _ hq) (x := k) _ s2 (callL_mem.2 ⟨hke.1, hke.2.1, by omega⟩) (fun t ht => ?_)
       refine fold_has (leaveR_le p.toPb n f _) (Q := fun t => t.h (ge p.es r).b.toNat c q.o.toNat = true) (fun _ _ h hq => h.h _ _ _ hq) (x := r) _ t (retL_mem.2 ⟨r1, r2', by omega⟩) (fun u _ => ?_)
       unfold leaveR
       rw [if_pos h5]
       refine fold_has (fun s a => spread_le p.toPb r a f s) (Q := fun t => t.h (ge p.es r).b.toNat c q.o.toNat = true) (fun _ _ h hq => h.h _ _ _ hq) (x := c) _ u (elems_mem.2 ⟨hc, ?_⟩) (fun v _ => spread_has hq hi v)
       exact ht.e _ _ _ hk
/-! ### Shape and measure -/
theorem addE_wf {p : Px} (ho : OkX p) {k b : Nat} (hk : k < p.es.length) (hb : b < p.F.toNat) {s : St} (h : Wf p.toPb s) : Wf p.toPb (addE p k b s) := by
 have h2 := ho.ok.edge hk
 unfold addE
 split
 · exact h
 · exact h.add (by omega) hb hb
theorem enter1X_wf {p : Px} (ho : OkX p) {k a b : Nat} (hk : k < p.es.length) (hk2 : (ge p.es k).k = 2) (ha : a < p.F.toNat) (hb : b < p.F.toNat) {s : St} (h : Wf p.toPb s) : Wf p.toPb (enter1X p k a b s) := by
 have h4 : Wf p.toPb (addE p k b s) := addE_wf ho hk hb h
 unfold enter1X
 split
 · exact h4
 · refine fold_keep (Q := Wf p.toPb) _ _ (fun r hr t ht => ?_) (h4.ent ha hk hk2)
   unfold enterRX
   split
   · exact fold_keep (Q := Wf p.toPb) _ t (fun f _ u hu => spread_wf ho.ok (retL_mem.1 hr).1 ha hu) ht
   · exact ht
theorem stepX_wf {p : Px} (ho : OkX p) {n a d : Nat} (hn : n < p.ns.length) (ha : a < p.F.toNat) {s : St} (h : Wf p.toPb s) : Wf p.toPb (stepX p n a d s) := by
 have f1 := ho.ok.f1
 have h1 : Wf p.toPb (stepA p.toPb n a d s) := by
   unfold stepA
   split
   · refine fold_keep (Q := Wf p.toPb) _ s (fun x hx t ht => ?_) h
     have := ho.ok.seed (seedL_mem.1 hx).1
     exact ht.add hn (by omega) (by omega)
   · exact h
 have h2 : Wf p.toPb ((outL p.toPb n).foldl (stepEX p a d) (stepA p.toPb n a d s)) := by
   refine fold_keep (Q := Wf p.toPb) _ _ (fun k hk t ht => ?_) h1
   unfold stepEX
   split
   · exact spread_wf ho.ok (outL_mem.1 hk).1 ha ht
   · split
     · rename_i hk2
       refine fold_keep (Q := Wf p.toPb) _ t (fun q hq u hu => ?_) ht
       have h1 := ho.ok.pair (by rw [ho.ok.len]; exact (outL_mem.1 hk).1) (mem_froms.1 hq).1
       exact enter1X_wf ho (outL_mem.1 hk).1 hk2 ha (by omega) hu
     · exact ht
 unfold stepX
 split
 · refine fold_keep (Q := Wf p.toPb) _ _ (fun k hk t ht => ?_) h2
   refine fold_keep (Q := Wf p.toPb) _ t (fun r hr u hu => ?_) ht
   unfold leaveR
   split
   · exact fold_keep (Q := Wf p.toPb) _ u (fun a' ha' v hv => spread_wf ho.ok (retL_mem.1 hr).1 (elems_mem.1 ha').1 hv) hu
   · exact hu
 · exact h2
theorem enter1X_mea {p : Px} (ho : OkX p) {k a b : Nat} (hk : k < p.es.length) (ha : a < p.F.toNat) (hb : b < p.F.toNat) (s : St) : mea p.toPb (enter1X p k a b s) ≤ mea p.toPb s := by
 have h2 := ho.ok.edge hk
 have h4 : mea p.toPb (addE p k b s) ≤ mea p.toPb s := by
   unfold addE
   split
   · exact Nat.le_refl _
   · exact mea_add (by omega) hb hb
 unfold enter1X
 split
 · exact h4
 · refine Nat.le_trans (fold_mea _ _ (fun r hr t => ?_)) h4
   unfold enterRX
   split
   · exact fold_mea _ t (fun f _ u => spread_mea ho.ok (retL_mem.1 hr).1 ha u)
   · exact Nat.le_refl _
theorem stepX_mea {p : Px} (ho : OkX p) {n a d : Nat} (hn : n < p.ns.length) (ha : a < p.F.toNat) (s : St) : mea p.toPb (stepX p n a d s) ≤ mea p.toPb s := by
 have f1 := ho.ok.f1
 have h1 : mea p.toPb (stepA p.toPb n a d s) ≤ mea p.toPb s := by
   unfold stepA
   split
   · refine fold_mea _ s (fun x hx t => ?_)
     have := ho.ok.seed (seedL_mem.1 hx).1
     exact mea_add hn (by omega) (by omega)
   · exact Nat.le_refl _
 have h2 : mea p.toPb ((outL p.toPb n).foldl (stepEX p a d) (stepA p.toPb n a d s)) ≤ mea p.toPb s := by
   refine Nat.le_trans (fold_mea _ _ (fun k hk t => ?_)) h1
   unfold stepEX
   split
   · exact spread_mea ho.ok (outL_mem.1 hk).1 ha t
   · split
     · refine fold_mea _ t (fun q hq u => ?_)
       have h1 := ho.ok.pair (by rw [ho.ok.len]; exact (outL_mem.1 hk).1) (mem_froms.1 hq).1
       exact enter1X_mea ho (outL_mem.1 hk).1 ha (by omega) u
     · exact Nat.le_refl _
 unfold stepX
 split
 · refine Nat.le_trans (fold_mea _ _ (fun k hk t => ?_)) h2
   refine fold_mea _ t (fun r hr u => ?_)
   unfold leaveR
   split
   · exact fold_mea _ u (fun a' ha' v => spread_mea ho.ok (retL_mem.1 hr).1 (elems_mem.1 ha').1 v)
   · exact Nat.le_refl _
 · exact h2
def batchX (p : Px) (n : Nat) (l : List (Nat × Nat)) (s : St) : St := l.foldl (fun s x => stepX p n x.1 x.2 s) s
def noSt : St := ⟨fun _ _ _ => false, fun _ _ _ => false, fun _ => [], []⟩
def initS (l : List (Nat × Nat)) (s : St) : St := l.foldl (fun s x => s.add x.1 x.2 x.2) s
structure InvX (p : Px) (n : Nat) (rest : List (Nat × Nat)) (s : St) : Prop where
 wf : Wf p.toPb s
 snd : SndX p s
 cp : CpX p s (Dn s n rest)
 ini : ∀ x ∈ p.ini, s.h x.1 x.2 x.2 = true
 rs : ∀ x ∈ rest, s.h n x.1 x.2 = true
theorem CpX.mono {p : Px} {s t : St} {D D' : Nat → Nat → Nat → Prop} (h : CpX p s D) (hh : t.h = s.h) (he : t.e = s.e) (hD : ∀ x y z, D' x y z → D x y z) : CpX p t D' :=
 ⟨fun m hm x hx e => by rw [hh]; exact h.seed m (hD _ _ _ hm) x hx e, fun m b c hm k h1 h2 h3 q hq e => by rw [hh]; exact h.flow m b c (hD _ _ _ hm) k h1 h2 h3 q hq e, fun m b c hm k h1 h2 h3 q hq e => by rw [hh, he]; exact h.call m b c (hD _ _ _ hm) k h1 h2 h3 q hq e,
  fun k b a hk r r1 r2 r3 r4 d hd q hq e => by rw [hh]; exact h.ret k b a (by rw [← he]; exact hk) r r1 r2 r3 r4 d (dox_mono hD hd) q hq e⟩
theorem InvX.pop {p : Px} {s : St} {n0 : Nat} (h : InvX p n0 [] s) {n : Nat} {r : List Nat} (hq : s.q = n :: r) : InvX p n (s.pd n) (popS s n r) := by
 refine ⟨h.wf.pop hq, ⟨h.snd.h, h.snd.e⟩, h.cp.mono rfl rfl fun x y z hd => ?_, h.ini, fun x hx => h.wf.ph _ _ hx⟩
 refine ⟨hd.1, fun hm => ?_, fun hm => by cases hm.2⟩
 by_cases e : x = n
 · subst e; exact hd.2.2 ⟨rfl, hm⟩
 · exact hd.2.1 (by dsimp only [popS]; rw [if_neg e]; exact hm)
theorem InvX.step {p : Px} (ho : OkX p) {s : St} {n a d : Nat} {rest : List (Nat × Nat)} (h : InvX p n ((a, d) :: rest) s) : InvX p n rest (stepX p n a d s) := by
 have hh := h.rs (a, d) (by simp)
 have hr := h.wf.rng _ _ _ hh
 have hp := h.snd.h _ _ _ hh
 have hl := stepX_le p n a d s
 have f1 := ho.ok.f1
 refine ⟨stepX_wf ho hr.1 hr.2.1 h.wf, stepX_snd ho hp h.snd, ?_, fun x hx => hl.h _ _ _ (h.ini x hx), fun x hx => hl.h _ _ _ (h.rs x (by simp [hx]))⟩
 refine stepX_cp ho (by omega) (D := Dn s n ((a, d) :: rest)) (fun n a d hd => ⟨hd.1, (h.wf.rng _ _ _ hd.1).2.2⟩) h.wf.ee h.cp _ ?_
 intro x y z hd
 have h1 : s.h x y z = true := by
   rcases hl.new _ _ _ hd.1 with h1 | h1
   · exact h1
   · exact absurd h1 hd.2.1
 by_cases e : x = n ∧ y = a ∧ z = d
 · exact .inr e
 · refine .inl ⟨h1, fun hm => hd.2.1 (hl.pd _ _ hm), fun hm => ?_⟩
   rcases List.mem_cons.1 hm.2 with h2 | h2
   · injection h2 with h3 h4
     exact e ⟨hm.1, h3, h4⟩
   · exact hd.2.2 ⟨hm.1, h2⟩
theorem InvX.rest {p : Px} {s : St} {n : Nat} (h : InvX p n [] s) (m : Nat) : InvX p m [] s :=
 ⟨h.wf, h.snd, h.cp.mono rfl rfl fun _ _ _ hd => ⟨hd.1, hd.2.1, fun hm => by cases hm.2⟩, h.ini, fun x hx => by cases hx⟩
theorem batchX_inv {p : Px} (ho : OkX p) {n : Nat} : ∀ (l : List (Nat × Nat)) {s : St}, InvX p n l s → InvX p n [] (batchX p n l s)
 | [], _, h => h
 | x :: l, s, h => batchX_inv ho l (s := stepX p n x.1 x.2 s) (h.step ho)
theorem batchX_mea {p : Px} (ho : OkX p) {n : Nat} : ∀ (l : List (Nat × Nat)) {s : St}, InvX p n l s → mea p.toPb (batchX p n l s) ≤ mea p.toPb s
 | [], _, _ => Nat.le_refl _
 | x :: l, s, h => by
   have hr := h.wf.rng _ _ _ (h.rs x (by simp))
   exact Nat.le_trans (batchX_mea ho l (s := stepX p n x.1 x.2 s) (h.step ho)) (stepX_mea ho hr.1 hr.2.1 s)
theorem initS_inv {p : Px} (ho : OkX p) : ∀ (l : List (Nat × Nat)), (∀ x ∈ l, x ∈ p.ini) → ∀ {s : St}, Wf p.toPb s → SndX p s → (∀ n a d, s.h n a d = true → (a, d) ∈ s.pd n) → (∀ k b a, s.e k b a = false) → Wf p.toPb (initS l s) ∧ SndX p (initS l s) ∧ (∀ n a d, (initS l s).h n a d = true → (a, d) ∈ (initS l s).pd n) ∧ (∀ k b a, (initS l s).e k b a = false) ∧ Le s (initS l s) ∧ ∀ x ∈ l, (initS l s).h x.1 x.2 x.2 = true
 | [], _, s, h1, h2, h3, h4 => ⟨h1, h2, h3, h4, Le.refl _, fun x hx => by cases hx⟩
 | x :: l, hl, s, h1, h2, h3, h4 => by
   have hx := ho.ini x (hl x (by simp))
   have hle := s.add_le x.1 x.2 x.2
   obtain ⟨g1, g2, g3, g4, g5, g6⟩ := initS_inv ho l (fun y hy => hl y (by simp [hy])) (s := s.add x.1 x.2 x.2) (h1.add hx.1 (by omega) (by omega)) (h2.add (.ini (hl x (by simp)))) (fun n a d hh => by
     rcases hle.new _ _ _ hh with h9 | h9
     · exact hle.pd _ _ (h3 _ _ _ h9)
     · exact h9) (fun k b a => by rw [St.add_e]; exact h4 k b a)
   refine ⟨g1, g2, g3, g4, hle.trans g5, fun y hy => ?_⟩
   rcases List.mem_cons.1 hy with e | e
   · subst e; exact g5.h _ _ _ (St.add_has _ _ _ _)
   · exact g6 y e
theorem initX_inv {p : Px} (ho : OkX p) : InvX p 0 [] (initS p.ini noSt) := by
 have h0 : Wf p.toPb noSt := ⟨by simp [noSt], by simp [noSt], by simp [noSt], by simp [noSt], by simp [noSt], by simp [noSt]⟩
 have s0 : SndX p noSt := ⟨by simp [noSt], by simp [noSt]⟩
 obtain ⟨g1, g2, g3, g4, -, g6⟩ := initS_inv ho p.ini (fun _ h => h) h0 s0 (by simp [noSt]) (by simp [noSt])
 have hd : ∀ x y z, ¬ Dn (initS p.ini noSt) 0 [] x y z := fun x y z hd => hd.2.1 (g3 _ _ _ hd.1)
 exact ⟨g1, g2, ⟨fun m hm => absurd hm (hd _ _ _), fun m b c hm => absurd hm (hd _ _ _), fun m b c hm => absurd hm (hd _ _ _), fun k b a hk => by rw [g4] at hk; cases hk⟩, g6, fun x hx => by cases hx⟩
theorem InvX.done {p : Px} (ho : OkX p) {s : St} {n : Nat} (h : InvX p n [] s) (hq : s.q = []) (a m d : Nat) : s.h m a d = true ↔ PEx p a m d := by
 have hpd : ∀ n, s.pd n = [] := fun n => Decidable.byContradiction fun hh => by
   have := (h.wf.qp n).2 hh
   rw [hq] at this
   cases this
 have hD : ∀ x y z, s.h x y z = true → Dn s n [] x y z := fun x y z hh => ⟨hh, by rw [hpd]; simp, fun hm => by cases hm.2⟩
 refine ⟨h.snd.h _ _ _, ?_⟩
 refine CloX.all (T := fun a n d => s.h n a d = true) ⟨h.ini, ?_, ?_, ?_, ?_, ?_⟩
 · intro x hx ht
   have := ho.ok.seed hx
   exact h.cp.seed _ (hD _ _ _ ht) x hx (by omega)
 · intro k hk hk2 q hq' b ht
   have h1 := ho.ok.pair (by rw [ho.ok.len]; exact hk) hq'
   have h2 := ho.ok.edge hk
   exact h.cp.flow _ _ _ (hD _ _ _ ht) k hk hk2 (by omega) q hq' (by omega)
 · intro hn k hk hk2 q hq' b ht
   have h1 := ho.ok.pair (by rw [ho.ok.len]; exact hk) hq'
   have h2 := ho.ok.edge hk
   exact (h.cp.call _ _ _ (hD _ _ _ ht) k hk hk2 (by omega) q hq' (by omega)).1 hn
 · intro hn c hc hc2 q hq' r hr hr2 t ht' e1 e2 b hb hb2
   have h1 := ho.ok.pair (by rw [ho.ok.len]; exact hc) hq'
   have h2 := ho.ok.edge hc
   have h3 := ho.ok.pair (by rw [ho.ok.len]; exact hr) ht'
   have h4 := ho.ok.edge hr
   have h5 := (h.cp.call _ _ _ (hD _ _ _ hb) c hc hc2 (by omega) q hq' (by omega)).2
   exact h.cp.ret _ _ _ h5 r hr hr2 e1.symm ((ho.ok.nd.start_iff (by omega) (by omega) (ho.ok.call hc hc2).1).2 e2) _ (by unfold dox; rw [hn]; exact hD _ _ _ hb2) t ht' (by omega)
 · intro L hn c hc hc2 q hq' r hr hr2 t ht' e1 e2 hw b hb
   have h1 := ho.ok.pair (by rw [ho.ok.len]; exact hc) hq'
   have h2 := ho.ok.edge hc
   have h3 := ho.ok.pair (by rw [ho.ok.len]; exact hr) ht'
   have h4 := ho.ok.edge hr
   have h5 := (h.cp.call _ _ _ (hD _ _ _ hb) c hc hc2 (by omega) q hq' (by omega)).2
   exact h.cp.ret _ _ _ h5 r hr hr2 e1.symm ((ho.ok.nd.start_iff (by omega) (by omega) (ho.ok.call hc hc2).1).2 e2) t.i.toNat (by unfold dox; rw [hn]; exact ⟨_, hw, by dsimp only; omega, rfl⟩) t ht' (by omega)
end If
end Go.Df
