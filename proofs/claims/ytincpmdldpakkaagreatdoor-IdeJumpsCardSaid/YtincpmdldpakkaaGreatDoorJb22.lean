/- Texts: Cv. -/
import Derived.Test.YtincpmdldpakkaaGreatDoorJb21
namespace Go.Proofs.YtincpmdldpakkaaGreatDoor
open Go.RowKit Go.Df Go.Df.Iv Go.Df.Sp
attribute [local go_sem ↓] Go.wp_at_zero Go.wp_at_succ
set_option maxRecDepth 100000 in
set_option maxHeartbeats 40000000 in
theorem rentered_any {p : Vb} {K : Kn} {w0 : World} {N f go cN : Nat} {mn : Int} {rw rc : Nat → Nat} {T : Nat → Nat → Nat → D} (w : World) (k : Nat) (hR : Rin p K w0 N f go rw) (hlow : Below w0.heap.size w0 w) (hT : Tw p N f w go rw rc T) (hk : k < p.es.length) (hkind : (ge p.es k).k = 2) :
   Calls Tryz.prog 106 #[.agg #[.slice K.A1 K.n1 K.c1, .slice K.A2 K.n2 K.c2, .int .i64 mn, .int .i64 (f : Nat), .slice K.A3 K.n3 K.c3, .slice K.A4 K.n4 K.c4, .slice (some ⟨go, 0, none⟩) N cN], .int .i64 k] w
     (GetR p N f go rw rc w T (∀ q ∈ gl p.fl k, ∀ a, a < f → T (ge p.es k).a.toNat a q.i.toNat ≠ top → xd q ≠ top → le (T (ge p.es k).b.toNat q.o.toNat q.o.toNat) shift)) := by
 have hf2 : f ≤ 1024 := by have h1 := hR.ok.f2; have h2 := hR.eF; omega
 have HR := Lib.hid hR
 have HO := Lib.hid hR.ok
 have HI := Lib.hid hR.inp
 have HFI := Lib.hid hR.fit
 have HT := Lib.hid hT
 have HKD := Lib.hid hkind
 have HLOW := Lib.hid hlow
 have HKN := Lib.hid hR.eK
 have HEF : Hid (p.F.toNat = f) := by show _ = _; rw [hR.eF, Int.toNat_natCast]
 have HEN := Lib.hid hR.eN
 clear hR hlow hT hkind
 go_enter Tryz.func106, Tryz.ntmps106
 go_upto_region 1 with fail
 refine wp_named (fun W => ∃ b0, w.heap.size = b0 ∧ Blk W b0 [.slice K.A1 K.n1 K.c1, .slice K.A2 K.n2 K.c2, .int .i64 mn, .int .i64 (f : Nat), .slice K.A3 K.n3 K.c3, .slice K.A4 K.n4 K.c4, .slice (some ⟨go, 0, none⟩) N cN] ∧ Below w.heap.size w W) ⟨_, rfl, ?_, ?_⟩ ?_
 · exact kbn
 · go_grown
 rintro W ⟨b0, e0, B0, hB⟩
 rw [e0]
 have G0 : w.heap.size ≤ b0 := by omega
 clear e0
 have ⟨L0, C0, F0⟩ := B0
 have hkW : Kept [] w W := (Kept.refl _ _).call hB
 have TW := Lib.hid (HT.out.keep hkW)
 have HLW := Lib.hid (HLOW.out.trans (hkW.toBelow.mono HLOW.out.size))
 have SB : Hid (SafeB (RowO N rw) W b0) := ⟨L0, fun ⟨n, hn, e⟩ => by have h1 := HT.out.lt n hn; omega⟩
 have HB0 := Lib.hid B0
 obtain ⟨b2, o2, ea, eb, e2, hl20, hl2, hk2, hea, heb, hea2, heb2, r2a, r2b, r2c, r2d⟩ := HI.out.edge HO.out HLW.out hk
 have HEA := Lib.hid hea
 have HEB := Lib.hid heb
 obtain ⟨ek, hek⟩ : ∃ x, (ge p.es k).k = x := ⟨_, rfl⟩
 obtain ⟨ec, hec⟩ : ∃ x, (ge p.es k).c = x := ⟨_, rfl⟩
 rw [hek] at r2c
 rw [hec] at r2d
 have heaN : ea < N := by rw [HEN.out]; exact hea2
 have hebN : eb < N := by rw [HEN.out]; exact heb2
 clear hea heb hek hec
 go_upto_region 3 with fail
 refine wp_named (fun V => ∃ g0, W.heap.size = g0 ∧ Blk V g0 [.int .i64 ea, .int .i64 eb, .int .i64 ek, .int .i64 ec] ∧ Kept [] W V) ⟨_, rfl, Blk.new _ _ _ _ rfl, (Kept.refl _ _).alloc _⟩ ?_
 rintro V0 ⟨g0, eg0, Bg0, hkV0⟩
 rw [eg0]
 have hkw0 : Kept [] w V0 := keptTrans hkW hkV0
 have TV := Lib.hid (HT.out.keep hkw0)
 have HLV := Lib.hid (HLW.out.trans (hkV0.toBelow.mono HLW.out.size))
 have SB0 : Hid (SafeB (RowO N rw) V0 b0) := SB.out.fx (Fx.same (O := RowO N rw) hkV0)
 have HB00 : Hid (Blk V0 b0 [.slice K.A1 K.n1 K.c1, .slice K.A2 K.n2 K.c2, .int .i64 mn, .int .i64 (f : Nat), .slice K.A3 K.n3 K.c3, .slice K.A4 K.n4 K.c4, .slice (some ⟨go, 0, none⟩) N cN]) := hkV0.blk (by simp) HB0.out
 have SE0 : Hid (SafeB (RowO N rw) V0 g0) := ⟨Bg0.1, fun ⟨n, hn, e⟩ => by have h1 := TW.out.lt n hn; omega⟩
 have HBE0 := Lib.hid Bg0
 have hbs : Hid (∀ x, RowO N rw x → w0.heap.size ≤ x) := fun x ⟨n, hn, e⟩ => by rw [e]; exact HR.out.base n hn
 have Fw : Hid (Fx (RowO N rw) (RowO N rw) w V0) := Fx.same hkw0
 clear r2a r2b r2c r2d hl2 e2 eg0 Bg0 C0 F0
 go_upto_region 4 with fail
 go_loopw [5, 7] (fun s5 s7 wr => ∃ (a : Nat) (b1 : Bool) (T1 : Nat → Nat → Nat → D), a ≤ f ∧ s5 = .bool b1 ∧ s7 = .int .i64 a ∧ Hid (Tw p N f wr go rw rc T1) ∧ Hid (Fx (RowO N rw) (RowO N rw) V0 wr) ∧ Hid (Rs p T T1 b1) ∧ Hid (b1 = false → ∀ q ∈ gl p.fl k, ∀ a', a' < a → T ea a' q.i.toNat ≠ top → xd q ≠ top → le (T eb q.o.toNat q.o.toNat) shift)) (fun _ s7 _ => f - (intOf s7).toNat)
 case atStart => exact ⟨0, false, T, Nat.zero_le _, rfl, rfl, TV, Lib.hid (Fx.refl _ _), Rs.refl p T, fun _ _ _ a' ha' => absurd ha' (Nat.not_lt_zero _)⟩
 case round =>
 rename World => wr
 clear TV
 obtain ⟨a, b1, T1, ha, rfl, rfl, TR, FR, RS, DN⟩ := hrel
 have ⟨Lr, Cr, Fr⟩ := SB0.out.blk FR.out HB00.out
 by_cases hlt : a < f
 case neg =>
   obtain rfl : a = f := by omega
   have HRES : Hid (b1 = false → ∀ q ∈ gl p.fl k, ∀ a', a' < a → T (ge p.es k).a.toNat a' q.i.toNat ≠ top → xd q ≠ top → le (T (ge p.es k).b.toNat q.o.toNat q.o.toNat) shift) := fun hb q hq a' ha' => by
     rw [HEA.out, HEB.out, Int.toNat_natCast, Int.toNat_natCast]
     exact DN.out hb q hq a' ha'
   go_wp2_with fail
   go_ret
   exact ⟨b1, T1, rfl, TR.out, Fw.out.trans FR.out, RS.out, HRES.out⟩
 have ha1 : (a : Int) < (f : Int) := by omega
 go_upto_region 7 with fail
 go_loopw [5, 8] (fun s5 s8 wq => ∃ (i : Nat) (b2 : Bool) (T2 : Nat → Nat → Nat → D), i ≤ (gl p.fl k).length ∧ s5 = .bool b2 ∧ s8 = .int .i64 i ∧ Hid (Tw p N f wq go rw rc T2) ∧ Hid (Fx (RowO N rw) (RowO N rw) V0 wq) ∧ Hid (Rs p T T2 b2) ∧ Hid (b2 = false → b1 = false) ∧ Hid (b2 = false → ∀ j, j < i → ∀ q, (gl p.fl k)[j]? = some q → T ea a q.i.toNat ≠ top → xd q ≠ top → le (T eb q.o.toNat q.o.toNat) shift)) (fun _ s8 _ => (gl p.fl k).length - (intOf s8).toNat)
 case atStart => exact ⟨0, b1, T1, Nat.zero_le _, rfl, rfl, TR, FR, RS, fun h => h, fun _ j hj => absurd hj (Nat.not_lt_zero _)⟩
 case round =>
 rename World => wq
 clear TR FR RS Cr Fr
 obtain ⟨i, c1', T2, hi, rfl, rfl, TQ, FQ, RQ, HB1, DQ⟩ := hrel
 have ⟨Lq, Cq, Fq⟩ := SB0.out.blk FQ.out HB00.out
 have ⟨Leq, Ceq, Feq⟩ := SE0.out.blk FQ.out HBE0.out
 have HLQ := Lib.hid (FQ.out.below HLV.out hbs.out)
 obtain ⟨b3, o3, Ai, ni, ci, e3, hl30, hl3, hk3, r3, hci, hxps, hni, hni2⟩ := HI.out.flow HO.out HLQ.out hk
 have hlen : (gl p.fl k).length = ni := hxps.1
 have HPR := Lib.hid hxps
 have HLEN := Lib.hid hlen
 rw [hlen] at hi
 clear hxps hlen
 by_cases hlti : i < ni
 case neg =>
   obtain rfl : i = ni := by omega
   have HRES : Hid (c1' = false → ∀ q ∈ gl p.fl k, ∀ a', a' < a + 1 → T ea a' q.i.toNat ≠ top → xd q ≠ top → le (T eb q.o.toNat q.o.toNat) shift) := fun hb q hq a' ha' => by
     rcases Nat.lt_or_ge a' a with h1 | h1
     · exact DN.out (HB1.out hb) q hq a' h1
     · obtain rfl : a' = a := by omega
       obtain ⟨j, hj, rfl⟩ := List.getElem_of_mem hq
       exact DQ.out hb j (by rw [← HLEN.out]; exact hj) _ (List.getElem?_eq_getElem hj)
   go_wp2_with fail
   exact ⟨⟨a + 1, c1', T2, by omega, rfl, by go_num, TQ, FQ, RQ, HRES⟩, by simp [intOf]; omega⟩
 obtain ⟨b5, o5, q, i', o, rfl, hl50, hl5, hjq, hqm, hqi, hqo, hiF, hoF, r50, r51, r52, r53, r54⟩ := xps_at HO.out HLQ.out (l := gl p.fl k) (fun q hq => hq) HPR.out hlti
 have hi1 : (i : Int) < (ni : Int) := by omega
 have HXD : Hid ((xd q).1 = ⟨q.k, q.b, q.c⟩) := xd_of HO.out HFI.out hqm
 obtain ⟨qk, hqk⟩ : ∃ v, q.k = v := ⟨_, rfl⟩
 obtain ⟨qb, hqb⟩ : ∃ v, q.b = v := ⟨_, rfl⟩
 obtain ⟨qc, hqc⟩ : ∃ v, q.c = v := ⟨_, rfl⟩
 rw [hqk] at r52
 rw [hqb] at r53
 rw [hqc] at r54
 have HXE : Hid ((xd q).1 = ⟨qk, qb, qc⟩) := by rw [← hqk, ← hqb, ← hqc]; exact HXD
 have HJQ := Lib.hid hjq
 have HQM := Lib.hid hqm
 have HQO := Lib.hid hqo
 have HQI := Lib.hid hqi
 rw [HEF.out] at hiF hoF
 clear hqk hqb hqc hjq hqm hqo hqi HXD
 go_upto_region 10 with fail
 refine wp_named (fun V => ∃ g, wq.heap.size = g ∧ Blk V g [.int .i64 i', .int .i64 o, .int .i64 qk, .int .i64 qb, .int .i64 qc] ∧ Kept [] wq V) ⟨_, rfl, Blk.new _ _ _ _ rfl, (Kept.refl _ _).alloc _⟩ ?_
 rintro V1 ⟨gq, eg, Bg, hkV1⟩
 rw [eg]
 have hgq : wq.heap.size ≤ gq := by omega
 have ⟨Lg, Cg, Fg⟩ := Bg
 have TV1 := Lib.hid (TQ.out.keep hkV1)
 have FV1 := Lib.hid (FQ.out.trans (Fx.same (O := RowO N rw) hkV1))
 have ⟨Lv, Cv, Fv⟩ := SB0.out.blk FV1.out HB00.out
 have ⟨Lev, Cev, Fev⟩ := SE0.out.blk FV1.out HBE0.out
 obtain ⟨y0, hy0⟩ : ∃ v, (T2 ea a i').1.k = v := ⟨_, rfl⟩
 obtain ⟨y1, hy1⟩ : ∃ v, (T2 ea a i').1.b = v := ⟨_, rfl⟩
 obtain ⟨y2, hy2⟩ : ∃ v, (T2 ea a i').1.c = v := ⟨_, rfl⟩
 have eY : (T2 ea a i').1 = ⟨y0, y1, y2⟩ := by rw [← hy0, ← hy1, ← hy2]
 have HTT : Hid (T2 ea a i' = top ↔ y0 = 0) := by show _ ↔ _; rw [← kind_top, eY]
 have HTQ : Hid (xd q = top ↔ qk = 0) := by show _ ↔ _; rw [← kind_top, HXE.out]
 have HAT : Hid (∀ w9, Kept [] V1 w9 → Calls Tryz.prog 57 #[.agg #[.slice K.A1 K.n1 K.c1, .slice K.A2 K.n2 K.c2, .int .i64 mn, .int .i64 (f : Nat), .slice K.A3 K.n3 K.c3, .slice K.A4 K.n4 K.c4, .slice (some ⟨go, 0, none⟩) N cN], .int .i64 a, .int .i64 ea, .int .i64 i'] w9 fun e w' => e = .returned (.agg #[.int .i64 y0, .int .i64 y1, .int .i64 y2]) ∧ Below w9.heap.size w9 w') := fun w9 hk9 => rat_any w9 a ea i' (TV1.out.keep hk9) heaN hlt hiF hf2 eY
 have HLEN2 : Hid ((gl p.fl k).length = ni) := HLEN
 have hfd : ∀ (x0 x1 x2 : Value) (w : World), (Instr.field 71 (.agg #[x0, x1, x2]) 0).run Tryz.prog w = .ok x0 w := fun _ _ _ _ => by kernel_rfl
 have HSK : Hid ((T2 ea a i' = top ∨ xd q = top) → c1' = false → ∀ j, j < i + 1 → ∀ q', (gl p.fl k)[j]? = some q' → T ea a q'.i.toNat ≠ top → xd q' ≠ top → le (T eb q'.o.toNat q'.o.toNat) shift) := fun hno hb j hj q' hq' => by
   rcases Nat.lt_or_ge j i with h1 | h1
   · exact DQ.out hb j h1 q' hq'
   · obtain rfl : j = i := by omega
     rw [HJQ.out] at hq'
     injection hq' with hq'
     rw [← hq', HQI.out, Int.toNat_natCast]
     rw [RQ.out.same hb] at hno
     exact fun h2 h3 => hno.elim (fun h => absurd h h2) (fun h => absurd h h3)
 clear hy0 hy1 hy2 eY r3 e3 hl3 r50 r51 r52 r53 r54 hl5 eg Bg Cq Fq Ceq Feq
 by_cases ht0 : y0 = 0
 · have HSK2 := Lib.hid (HSK.out (.inl (HTT.out.2 ht0)))
   subst ht0
   refine wp_region_E 25 (fun w' => SX0 V1 w') (by kernel_rfl) (by (exact kp0)) (fun hHeld => ?_)
   refine WE_tk 0 ?_
   refine WE_tk 1 ?_
   refine WE_tk 2 ?_
   refine WE_tk 3 ?_
   refine WE_tk 4 ?_
   refine WE_tk 5 ?_
   refine WE_step 6 rfl (by kernel_rfl) (fun K hK => ?_)
   go_simp
   (first | (go_at_call 57; refine (HAT.out _ (by (exact kpt0))).mono ?_; rintro e w4 ⟨rfl, hb4⟩; have hk4 : Kept [] V1 w4 := Kept.call (by (exact kpt0)) hb4) | skip)
   (try go_wp2_with fail)
   refine hK.out _ _ ?_ (fun hHeld => ?_)
   · (exact kp0)
   clear hK K
   refine WE_put ?_
   refine WE_tk 7 ?_
   refine WE_tk 8 ?_
   refine WE_tk 9 ?_
   first | (refine WE_tu 10 ?_) | (refine WE_tk 10 ?_)
   first | (refine WE_tu 11 ?_) | (refine WE_tk 11 ?_)
   first | (refine WE_tu 12 ?_) | (refine WE_tk 12 ?_)
   first | (refine WE_tu 13 ?_) | (refine WE_tk 13 ?_)
   refine WE_tk 14 ?_
   refine WE_tk 15 ?_
   first | (refine WE_tu 16 ?_) | (refine WE_tk 16 ?_)
   first | (refine WE_tu 17 ?_) | (refine WE_tk 17 ?_)
   first | (refine WE_tu 18 ?_) | (refine WE_tk 18 ?_)
   first | (refine WE_tu 19 ?_) | (refine WE_tk 19 ?_)
   first | (refine WE_tu 20 ?_) | (refine WE_tk 20 ?_)
   first | (refine WE_tu 21 ?_) | (refine WE_tk 21 ?_)
   first | (refine WE_tu 22 ?_) | (refine WE_tk 22 ?_)
   refine WE_step 23 rfl (by kernel_rfl) (fun K hK => ?_)
   go_simp
   (first | (go_at_call 57; refine (HAT.out _ (by (exact kpt0))).mono ?_; rintro e w4 ⟨rfl, hb4⟩; have hk4 : Kept [] V1 w4 := Kept.call (by (exact kpt0)) hb4) | skip)
   (try go_wp2_with fail)
   refine hK.out _ _ ?_ (fun hHeld => ?_)
   · (exact kp0)
   clear hK K
   refine WE_put ?_
   refine WE_step 24 rfl (by kernel_rfl) (fun K hK => ?_)
   go_simp
   (first | (go_at_call 57; refine (HAT.out _ (by (exact kpt0))).mono ?_; rintro e w4 ⟨rfl, hb4⟩; have hk4 : Kept [] V1 w4 := Kept.call (by (exact kpt0)) hb4) | skip)
   (try go_wp2_with fail)
   refine hK.out _ _ ?_ (fun hHeld => ?_)
   · (exact kp0)
   clear hK K
   refine WE_put ?_
   refine WE_last rfl (by kernel_rfl) (fun K hK => ?_)
   go_simp
   refine hK.out _ _ ?_
   clear hK K
   go_wp2_with fail
   exact ⟨⟨i + 1, c1', T2, by rw [HLEN2.out]; omega, rfl, by go_num, Lib.hid (TV1.out.keep hk4), Lib.hid (FV1.out.trans (Fx.same (O := RowO N rw) hk4)), RQ, HB1, HSK2⟩, by simp [intOf]; rw [HLEN2.out]; omega⟩
 have hy0n : (y0 == 0) = false := by simpa using ht0
 have hy0m : (y0 != 0) = true := by simpa using ht0
 have HTN : Hid (T2 ea a i' ≠ top) := fun h => ht0 (HTT.out.1 h)
 clear ht0
 by_cases hq0 : qk = 0
 · have HSK2 := Lib.hid (HSK.out (.inr (HTQ.out.2 hq0)))
   subst hq0
   refine wp_region_E 25 (fun w' => SX0 V1 w') (by kernel_rfl) (by (exact kp0)) (fun hHeld => ?_)
   refine WE_tk 0 ?_
   refine WE_tk 1 ?_
   refine WE_tk 2 ?_
   refine WE_tk 3 ?_
   refine WE_tk 4 ?_
   refine WE_tk 5 ?_
   refine WE_step 6 rfl (by kernel_rfl) (fun K hK => ?_)
   go_simp
   (first | (go_at_call 57; refine (HAT.out _ (by (exact kpt0))).mono ?_; rintro e w4 ⟨rfl, hb4⟩; have hk4 : Kept [] V1 w4 := Kept.call (by (exact kpt0)) hb4) | skip)
   (try go_wp2_with fail)
   refine hK.out _ _ ?_ (fun hHeld => ?_)
   · (exact kp0)
   clear hK K
   refine WE_put ?_
   refine WE_tk 7 ?_
   refine WE_tk 8 ?_
   refine WE_tk 9 ?_
   first | (refine WE_tu 10 ?_) | (refine WE_tk 10 ?_)
   first | (refine WE_tu 11 ?_) | (refine WE_tk 11 ?_)
   first | (refine WE_tu 12 ?_) | (refine WE_tk 12 ?_)
   first | (refine WE_tu 13 ?_) | (refine WE_tk 13 ?_)
   refine WE_tk 14 ?_
   refine WE_tk 15 ?_
   first | (refine WE_tu 16 ?_) | (refine WE_tk 16 ?_)
   first | (refine WE_tu 17 ?_) | (refine WE_tk 17 ?_)
   first | (refine WE_tu 18 ?_) | (refine WE_tk 18 ?_)
   first | (refine WE_tu 19 ?_) | (refine WE_tk 19 ?_)
   first | (refine WE_tu 20 ?_) | (refine WE_tk 20 ?_)
   first | (refine WE_tu 21 ?_) | (refine WE_tk 21 ?_)
   first | (refine WE_tu 22 ?_) | (refine WE_tk 22 ?_)
   refine WE_step 23 rfl (by kernel_rfl) (fun K hK => ?_)
   go_simp
   (first | (go_at_call 57; refine (HAT.out _ (by (exact kpt0))).mono ?_; rintro e w4 ⟨rfl, hb4⟩; have hk4 : Kept [] V1 w4 := Kept.call (by (exact kpt0)) hb4) | skip)
   (try go_wp2_with fail)
   refine hK.out _ _ ?_ (fun hHeld => ?_)
   · (exact kp0)
   clear hK K
   refine WE_put ?_
   refine WE_step 24 rfl (by kernel_rfl) (fun K hK => ?_)
   go_simp
   (first | (go_at_call 57; refine (HAT.out _ (by (exact kpt0))).mono ?_; rintro e w4 ⟨rfl, hb4⟩; have hk4 : Kept [] V1 w4 := Kept.call (by (exact kpt0)) hb4) | skip)
   (try go_wp2_with fail)
   refine hK.out _ _ ?_ (fun hHeld => ?_)
   · (exact kp0)
   clear hK K
   refine WE_put ?_
   refine WE_last rfl (by kernel_rfl) (fun K hK => ?_)
   go_simp
   refine hK.out _ _ ?_
   clear hK K
   go_wp2_with fail
   exact ⟨⟨i + 1, c1', T2, by rw [HLEN2.out]; omega, rfl, by go_num, Lib.hid (TV1.out.keep hk4), Lib.hid (FV1.out.trans (Fx.same (O := RowO N rw) hk4)), RQ, HB1, HSK2⟩, by simp [intOf]; rw [HLEN2.out]; omega⟩
 have hqkn : (qk == 0) = false := by simpa using hq0
 have hqkm : (qk != 0) = true := by simpa using hq0
 have HQT : Hid (xd q ≠ top) := fun h => hq0 (HTQ.out.1 h)
 clear hq0
 obtain ⟨bb, hbb⟩ : ∃ bb, (!decide (meet (T2 eb o o) shift = T2 eb o o)) = bb := ⟨_, rfl⟩
 have HRS : Hid (Rs p T2 (tput T2 eb o o (meet (T2 eb o o) shift)) bb) := by
   rw [← hbb]
   refine Rs.inc heb2 (by rw [HEF.out]; exact hoF) (by rw [HEF.out]; exact hoF) (fun Y hY hle => ?_)
   have h7 := hY.call k hk HKD.out q HQM.out a
   rw [HEA.out, HEB.out, HQI.out, HQO.out, Int.toNat_natCast, Int.toNat_natCast, Int.toNat_natCast, Int.toNat_natCast] at h7
   exact h7 (fun h0 => HTN.out (top_of_le (h0 ▸ hle ea a i'))) HQT.out
 have HNO : Hid (bb = false → le (T2 eb o o) shift) := fun h => inc_no (by rw [hbb]; exact h)
 have HIN : Hid (∀ w9, Kept [] V1 w9 → Calls Tryz.prog 102 #[.agg #[.slice K.A1 K.n1 K.c1, .slice K.A2 K.n2 K.c2, .int .i64 mn, .int .i64 (f : Nat), .slice K.A3 K.n3 K.c3, .slice K.A4 K.n4 K.c4, .slice (some ⟨go, 0, none⟩) N cN], .int .i64 o, .int .i64 eb, .int .i64 o, .agg #[.int .i64 2, .int .i64 0, .int .i64 0]] w9 fun e w' => e = .returned (.bool bb) ∧ Tw p N f w' go rw rc (tput T2 eb o o (meet (T2 eb o o) shift)) ∧ Kept [rw eb] V1 w') := fun w9 hk9 =>
   (rinc_any w9 o eb o shift (TV1.out.keep hk9) hebN hoF hoF hf2 rfl).mono (fun e w' ⟨h1, h2, h3⟩ => ⟨by rw [h1, hbb], h2, Kept.next (keptNil hk9) h3 (fun y hy => .inl hy)⟩)
 clear hbb
 have nb0 : b0 ∉ [rw eb] := by
   intro hm
   exact (SB0.out.fx FV1.out).2 ⟨eb, hebN, by simpa using hm⟩
 have ng0 : g0 ∉ [rw eb] := by
   intro hm
   exact (SE0.out.fx FV1.out).2 ⟨eb, hebN, by simpa using hm⟩
 have ngq : gq ∉ [rw eb] := by
   intro hm
   have h1 : gq = rw eb := by simpa using hm
   have h2 := TQ.out.lt eb hebN
   omega
 obtain ⟨re, hre⟩ : ∃ re, re = rw eb := ⟨_, rfl⟩
 rw [← hre] at HIN nb0 ng0 ngq
 have HRE := Lib.hid hre
 clear hre
 refine wp_region_E 25 (fun w' => SXt [re] b0 g0 gq V1 w') (by kernel_rfl) (by (first | (with_reducible assumption) | exact SXt.of (keptNil (Kept.refl _ _).drew) Lv Lev Lg nb0 ng0 ngq)) (fun hHeld => ?_)
 refine WE_tk 0 ?_
 refine WE_tk 1 ?_
 refine WE_tk 2 ?_
 refine WE_tk 3 ?_
 refine WE_tk 4 ?_
 refine WE_tk 5 ?_
 refine WE_step 6 rfl (by kernel_rfl) (fun K hK => ?_)
 go_simp
 (first | (go_at_call 57; refine (HAT.out _ (by (exact kpt0))).mono ?_; rintro e w4 ⟨rfl, hb4⟩; have hk4 : Kept [] V1 w4 := Kept.call (by (exact kpt0)) hb4; have hs4 : SXt [re] b0 g0 gq V1 w4 := SXt.of (keptNil hk4) Lv Lev Lg nb0 ng0 ngq) | (go_at_call 103; refine (rshift_any _).mono ?_; rintro e w5 ⟨rfl, hb5⟩; have hk5 : Kept [] V1 w5 := Kept.call hk4 hb5; have hs5 : SXt [re] b0 g0 gq V1 w5 := SXt.of (keptNil hk5) Lv Lev Lg nb0 ng0 ngq) | (go_at_call 102; refine (HIN.out _ hk5).mono ?_; rintro e w7 ⟨rfl, T7, hk7⟩; have hs7 : SXt [re] b0 g0 gq V1 w7 := SXt.of hk7 Lv Lev Lg nb0 ng0 ngq))
 (try go_wp2_with fail)
 refine hK.out _ _ ?_ (fun hHeld => ?_)
 · (first | (with_reducible assumption) | exact SXt.of (keptNil (Kept.refl _ _).drew) Lv Lev Lg nb0 ng0 ngq)
 clear hK K
 refine WE_put ?_
 refine WE_tk 7 ?_
 refine WE_tk 8 ?_
 refine WE_tk 9 ?_
 first | (refine WE_tu 10 ?_) | (refine WE_tk 10 ?_)
 first | (refine WE_tu 11 ?_) | (refine WE_tk 11 ?_)
 first | (refine WE_tu 12 ?_) | (refine WE_tk 12 ?_)
 first | (refine WE_tu 13 ?_) | (refine WE_tk 13 ?_)
 refine WE_tk 14 ?_
 refine WE_tk 15 ?_
 first | (refine WE_tu 16 ?_) | (refine WE_tk 16 ?_)
 first | (refine WE_tu 17 ?_) | (refine WE_tk 17 ?_)
 first | (refine WE_tu 18 ?_) | (refine WE_tk 18 ?_)
 first | (refine WE_tu 19 ?_) | (refine WE_tk 19 ?_)
 first | (refine WE_tu 20 ?_) | (refine WE_tk 20 ?_)
 first | (refine WE_tu 21 ?_) | (refine WE_tk 21 ?_)
 first | (refine WE_tu 22 ?_) | (refine WE_tk 22 ?_)
 refine WE_step 23 rfl (by kernel_rfl) (fun K hK => ?_)
 go_simp
 (first | (go_at_call 57; refine (HAT.out _ (by (exact kpt0))).mono ?_; rintro e w4 ⟨rfl, hb4⟩; have hk4 : Kept [] V1 w4 := Kept.call (by (exact kpt0)) hb4; have hs4 : SXt [re] b0 g0 gq V1 w4 := SXt.of (keptNil hk4) Lv Lev Lg nb0 ng0 ngq) | (go_at_call 103; refine (rshift_any _).mono ?_; rintro e w5 ⟨rfl, hb5⟩; have hk5 : Kept [] V1 w5 := Kept.call hk4 hb5; have hs5 : SXt [re] b0 g0 gq V1 w5 := SXt.of (keptNil hk5) Lv Lev Lg nb0 ng0 ngq) | (go_at_call 102; refine (HIN.out _ hk5).mono ?_; rintro e w7 ⟨rfl, T7, hk7⟩; have hs7 : SXt [re] b0 g0 gq V1 w7 := SXt.of hk7 Lv Lev Lg nb0 ng0 ngq))
 (try go_wp2_with fail)
 refine hK.out _ _ ?_ (fun hHeld => ?_)
 · (first | (with_reducible assumption) | exact SXt.of (keptNil (Kept.refl _ _).drew) Lv Lev Lg nb0 ng0 ngq)
 clear hK K
 refine WE_put ?_
 refine WE_step 24 rfl (by kernel_rfl) (fun K hK => ?_)
 go_simp
 (first | (go_at_call 57; refine (HAT.out _ (by (exact kpt0))).mono ?_; rintro e w4 ⟨rfl, hb4⟩; have hk4 : Kept [] V1 w4 := Kept.call (by (exact kpt0)) hb4; have hs4 : SXt [re] b0 g0 gq V1 w4 := SXt.of (keptNil hk4) Lv Lev Lg nb0 ng0 ngq) | (go_at_call 103; refine (rshift_any _).mono ?_; rintro e w5 ⟨rfl, hb5⟩; have hk5 : Kept [] V1 w5 := Kept.call hk4 hb5; have hs5 : SXt [re] b0 g0 gq V1 w5 := SXt.of (keptNil hk5) Lv Lev Lg nb0 ng0 ngq) | (go_at_call 102; refine (HIN.out _ hk5).mono ?_; rintro e w7 ⟨rfl, T7, hk7⟩; have hs7 : SXt [re] b0 g0 gq V1 w7 := SXt.of hk7 Lv Lev Lg nb0 ng0 ngq))
 (try go_wp2_with fail)
 refine hK.out _ _ ?_ (fun hHeld => ?_)
 · (first | (with_reducible assumption) | exact SXt.of (keptNil (Kept.refl _ _).drew) Lv Lev Lg nb0 ng0 ngq)
 clear hK K
 refine WE_put ?_
 refine WE_last rfl (by kernel_rfl) (fun K hK => ?_)
 go_simp
 refine hK.out _ _ ?_
 clear hK K
 have F7 : Hid (Fx (RowO N rw) (RowO N rw) V0 w7) := FV1.out.trans (RowO.fx hebN (by rw [← HRE.out]; exact hk7))
 have HT7 := Lib.hid T7
 have HR7 : Hid (Rs p T (tput T2 eb o o (meet (T2 eb o o) shift)) (c1' || bb)) := RQ.out.trans HRS.out
 have HNX : Hid ((c1' || bb) = false → ∀ j, j < i + 1 → ∀ q', (gl p.fl k)[j]? = some q' → T ea a q'.i.toNat ≠ top → xd q' ≠ top → le (T eb q'.o.toNat q'.o.toNat) shift) := fun hb j hj q' hq' => by
   rw [Bool.or_eq_false_iff] at hb
   rcases Nat.lt_or_ge j i with h1 | h1
   · exact DQ.out hb.1 j h1 q' hq'
   · obtain rfl : j = i := by omega
     rw [HJQ.out] at hq'
     injection hq' with hq'
     have h2 := HNO.out hb.2
     rw [RQ.out.same hb.1] at h2
     rw [← hq', HQO.out, Int.toNat_natCast]
     exact fun _ _ => h2
 clear T7 hk7 hs7 hs5 hs4 Cg Fg Cv Fv Cev Fev
 cases bb with
 | true =>
   go_wp2_with fail
   exact ⟨⟨i + 1, true, _, by rw [HLEN2.out]; omega, rfl, by go_num, HT7, F7, by have h9 := HR7.out; rw [Bool.or_true] at h9; exact h9, (fun h => by cases h), (fun h => by cases h)⟩, by simp [intOf]; rw [HLEN2.out]; omega⟩
 | false =>
   have HR8 : Hid (Rs p T (tput T2 eb o o (meet (T2 eb o o) shift)) c1') := by have h9 := HR7.out; rw [Bool.or_false] at h9; exact h9
   have HNX2 : Hid (c1' = false → ∀ j, j < i + 1 → ∀ q', (gl p.fl k)[j]? = some q' → T ea a q'.i.toNat ≠ top → xd q' ≠ top → le (T eb q'.o.toNat q'.o.toNat) shift) := by have h9 := HNX.out; rw [Bool.or_false] at h9; exact h9
   go_wp2_with fail
   exact ⟨⟨i + 1, c1', _, by rw [HLEN2.out]; omega, rfl, by go_num, HT7, F7, HR8, HB1, HNX2⟩, by simp [intOf]; rw [HLEN2.out]; omega⟩
end Go.Proofs.YtincpmdldpakkaaGreatDoor
