/- Texts: Cs Ct. -/
import Derived.Test.YtincpmdldpakkaaGreatDoorJb20
namespace Go.Proofs.YtincpmdldpakkaaGreatDoor
open Go.RowKit Go.Df Go.Df.Iv Go.Df.Sp
attribute [local go_sem ↓] Go.wp_at_zero Go.wp_at_succ
def RowO (N : Nat) (rw : Nat → Nat) : Nat → Prop := fun x => ∃ n, n < N ∧ x = rw n
theorem RowO.fx {N : Nat} {rw : Nat → Nat} {w w' : World} {n : Nat} (hn : n < N) (hk : Kept [rw n] w w') : Fx (RowO N rw) (RowO N rw) w w' := Fx.of hk (fun x hx => .inl ⟨n, hn, by simpa using hx⟩) (fun _ h => .inl h)
def GetR (p : Vb) (N f : Nat) (go : Nat) (rw rc : Nat → Nat) (w : World) (T : Nat → Nat → Nat → D) (Q : Prop) (e : Ending) (w' : World) : Prop :=
 ∃ b T', e = .returned (.bool b) ∧ Tw p N f w' go rw rc T' ∧ Fx (RowO N rw) (RowO N rw) w w' ∧ Rs p T T' b ∧ (b = false → Q)
structure Rin (p : Vb) (K : Kn) (w0 : World) (N f : Nat) (go : Nat) (rw : Nat → Nat) : Prop where
 inp : Inp p K w0
 ok : VOk p
 fit : VFit p
 eN : N = p.ns.length
 eK : K.n1 = N
 eF : p.F = (f : Int)
 base : ∀ n, n < N → w0.heap.size ≤ rw n
 gob : w0.heap.size ≤ go
set_option maxRecDepth 100000 in
set_option maxHeartbeats 40000000 in
theorem rpassed_any {p : Vb} {K : Kn} {w0 : World} {N f go cN : Nat} {mn : Int} {rw rc : Nat → Nat} {T : Nat → Nat → Nat → D} (w : World) (k : Nat) (hR : Rin p K w0 N f go rw) (hlow : Below w0.heap.size w0 w) (hT : Tw p N f w go rw rc T) (hk : k < p.es.length) (hkind : (ge p.es k).k = 1 ∨ (ge p.es k).k = 5) :
   Calls Tryz.prog 105 #[.agg #[.slice K.A1 K.n1 K.c1, .slice K.A2 K.n2 K.c2, .int .i64 mn, .int .i64 (f : Nat), .slice K.A3 K.n3 K.c3, .slice K.A4 K.n4 K.c4, .slice (some ⟨go, 0, none⟩) N cN], .int .i64 k] w
     (GetR p N f go rw rc w T (∀ q ∈ gl p.fl k, ∀ a, a < f → le (T (ge p.es k).b.toNat a q.o.toNat) (comp (T (ge p.es k).a.toNat a q.i.toNat) (xd q)))) := by
 have hf2 : f ≤ 1024 := by have h1 := hR.ok.f2; have h2 := hR.eF; omega
 have HR := Lib.hid hR
 have HO := Lib.hid hR.ok
 have HI := Lib.hid hR.inp
 have HFI := Lib.hid hR.fit
 have HT := Lib.hid hT
 have HKD := Lib.hid hkind
 have HLOW := Lib.hid hlow
 have HKN := Lib.hid hR.eK
 have HEF : Hid (p.F.toNat = f) := by show _ = _; rw [hR.eF, Int.toNat_natCast]
 have HEN := Lib.hid hR.eN
 clear hR hlow hT hkind
 go_enter Tryz.func105, Tryz.ntmps105
 go_upto_region 1 with fail
 refine wp_named (fun W => ∃ b0, w.heap.size = b0 ∧ Blk W b0 [.slice K.A1 K.n1 K.c1, .slice K.A2 K.n2 K.c2, .int .i64 mn, .int .i64 (f : Nat), .slice K.A3 K.n3 K.c3, .slice K.A4 K.n4 K.c4, .slice (some ⟨go, 0, none⟩) N cN] ∧ Below w.heap.size w W) ⟨_, rfl, ?_, ?_⟩ ?_
 · exact kbn
 · go_grown
 rintro W ⟨b0, e0, B0, hB⟩
 rw [e0]
 have G0 : w.heap.size ≤ b0 := by omega
 clear e0
 have ⟨L0, C0, F0⟩ := B0
 have hkW : Kept [] w W := (Kept.refl _ _).call hB
 have TW := Lib.hid (HT.out.keep hkW)
 have HLW := Lib.hid (HLOW.out.trans (hkW.toBelow.mono HLOW.out.size))
 have SB : Hid (SafeB (RowO N rw) W b0) := ⟨L0, fun ⟨n, hn, e⟩ => by have h1 := HT.out.lt n hn; omega⟩
 have HB0 := Lib.hid B0
 obtain ⟨b2, o2, ea, eb, e2, hl20, hl2, hk2, hea, heb, hea2, heb2, r2a, r2b, r2c, r2d⟩ := HI.out.edge HO.out HLW.out hk
 have HEA := Lib.hid hea
 have HEB := Lib.hid heb
 obtain ⟨ek, hek⟩ : ∃ x, (ge p.es k).k = x := ⟨_, rfl⟩
 obtain ⟨ec, hec⟩ : ∃ x, (ge p.es k).c = x := ⟨_, rfl⟩
 rw [hek] at r2c
 rw [hec] at r2d
 have heaN : ea < N := by rw [HEN.out]; exact hea2
 have hebN : eb < N := by rw [HEN.out]; exact heb2
 clear hea heb hek hec
 go_upto_region 3 with fail
 refine wp_named (fun V => ∃ g0, W.heap.size = g0 ∧ Blk V g0 [.int .i64 ea, .int .i64 eb, .int .i64 ek, .int .i64 ec] ∧ Kept [] W V) ⟨_, rfl, Blk.new _ _ _ _ rfl, (Kept.refl _ _).alloc _⟩ ?_
 rintro V0 ⟨g0, eg0, Bg0, hkV0⟩
 rw [eg0]
 have hkw0 : Kept [] w V0 := keptTrans hkW hkV0
 have TV := Lib.hid (HT.out.keep hkw0)
 have HLV := Lib.hid (HLW.out.trans (hkV0.toBelow.mono HLW.out.size))
 have SB0 : Hid (SafeB (RowO N rw) V0 b0) := SB.out.fx (Fx.same (O := RowO N rw) hkV0)
 have HB00 : Hid (Blk V0 b0 [.slice K.A1 K.n1 K.c1, .slice K.A2 K.n2 K.c2, .int .i64 mn, .int .i64 (f : Nat), .slice K.A3 K.n3 K.c3, .slice K.A4 K.n4 K.c4, .slice (some ⟨go, 0, none⟩) N cN]) := hkV0.blk (by simp) HB0.out
 have SE0 : Hid (SafeB (RowO N rw) V0 g0) := ⟨Bg0.1, fun ⟨n, hn, e⟩ => by have h1 := TW.out.lt n hn; omega⟩
 have HBE0 := Lib.hid Bg0
 have hbs : Hid (∀ x, RowO N rw x → w0.heap.size ≤ x) := fun x ⟨n, hn, e⟩ => by rw [e]; exact HR.out.base n hn
 have Fw : Hid (Fx (RowO N rw) (RowO N rw) w V0) := Fx.same hkw0
 clear r2a r2b r2c r2d hl2 e2 eg0 Bg0 C0 F0
 go_upto_region 4 with fail
 go_loopw [5, 7] (fun s5 s7 wr => ∃ (a : Nat) (b1 : Bool) (T1 : Nat → Nat → Nat → D), a ≤ f ∧ s5 = .bool b1 ∧ s7 = .int .i64 a ∧ Hid (Tw p N f wr go rw rc T1) ∧ Hid (Fx (RowO N rw) (RowO N rw) V0 wr) ∧ Hid (Rs p T T1 b1) ∧ Hid (b1 = false → ∀ q ∈ gl p.fl k, ∀ a', a' < a → le (T eb a' q.o.toNat) (comp (T ea a' q.i.toNat) (xd q)))) (fun _ s7 _ => f - (intOf s7).toNat)
 case atStart => exact ⟨0, false, T, Nat.zero_le _, rfl, rfl, TV, Lib.hid (Fx.refl _ _), Rs.refl p T, fun _ _ _ a' ha' => absurd ha' (Nat.not_lt_zero _)⟩
 case round =>
 rename World => wr
 clear TV
 obtain ⟨a, b1, T1, ha, rfl, rfl, TR, FR, RS, DN⟩ := hrel
 have ⟨Lr, Cr, Fr⟩ := SB0.out.blk FR.out HB00.out
 by_cases hlt : a < f
 case neg =>
   obtain rfl : a = f := by omega
   have HRES : Hid (b1 = false → ∀ q ∈ gl p.fl k, ∀ a', a' < a → le (T (ge p.es k).b.toNat a' q.o.toNat) (comp (T (ge p.es k).a.toNat a' q.i.toNat) (xd q))) := fun hb q hq a' ha' => by
     rw [HEA.out, HEB.out, Int.toNat_natCast, Int.toNat_natCast]
     exact DN.out hb q hq a' ha'
   go_wp2_with fail
   go_ret
   exact ⟨b1, T1, rfl, TR.out, Fw.out.trans FR.out, RS.out, HRES.out⟩
 have ha1 : (a : Int) < (f : Int) := by omega
 go_upto_region 7 with fail
 go_loopw [5, 8] (fun s5 s8 wq => ∃ (i : Nat) (b2 : Bool) (T2 : Nat → Nat → Nat → D), i ≤ (gl p.fl k).length ∧ s5 = .bool b2 ∧ s8 = .int .i64 i ∧ Hid (Tw p N f wq go rw rc T2) ∧ Hid (Fx (RowO N rw) (RowO N rw) V0 wq) ∧ Hid (Rs p T T2 b2) ∧ Hid (b2 = false → b1 = false) ∧ Hid (b2 = false → ∀ j, j < i → ∀ q, (gl p.fl k)[j]? = some q → le (T eb a q.o.toNat) (comp (T ea a q.i.toNat) (xd q)))) (fun _ s8 _ => (gl p.fl k).length - (intOf s8).toNat)
 case atStart => exact ⟨0, b1, T1, Nat.zero_le _, rfl, rfl, TR, FR, RS, fun h => h, fun _ j hj => absurd hj (Nat.not_lt_zero _)⟩
 case round =>
 rename World => wq
 clear TR FR RS Cr Fr
 obtain ⟨i, c1', T2, hi, rfl, rfl, TQ, FQ, RQ, HB1, DQ⟩ := hrel
 have ⟨Lq, Cq, Fq⟩ := SB0.out.blk FQ.out HB00.out
 have ⟨Leq, Ceq, Feq⟩ := SE0.out.blk FQ.out HBE0.out
 have HLQ := Lib.hid (FQ.out.below HLV.out hbs.out)
 obtain ⟨b3, o3, Ai, ni, ci, e3, hl30, hl3, hk3, r3, hci, hxps, hni, hni2⟩ := HI.out.flow HO.out HLQ.out hk
 have hlen : (gl p.fl k).length = ni := hxps.1
 have HPR := Lib.hid hxps
 have HLEN := Lib.hid hlen
 rw [hlen] at hi
 clear hxps hlen
 by_cases hlti : i < ni
 case neg =>
   obtain rfl : i = ni := by omega
   have HRES : Hid (c1' = false → ∀ q ∈ gl p.fl k, ∀ a', a' < a + 1 → le (T eb a' q.o.toNat) (comp (T ea a' q.i.toNat) (xd q))) := fun hb q hq a' ha' => by
     rcases Nat.lt_or_ge a' a with h1 | h1
     · exact DN.out (HB1.out hb) q hq a' h1
     · obtain rfl : a' = a := by omega
       obtain ⟨j, hj, rfl⟩ := List.getElem_of_mem hq
       exact DQ.out hb j (by rw [← HLEN.out]; exact hj) _ (List.getElem?_eq_getElem hj)
   go_wp2_with fail
   exact ⟨⟨a + 1, c1', T2, by omega, rfl, by go_num, TQ, FQ, RQ, HRES⟩, by simp [intOf]; omega⟩
 obtain ⟨b5, o5, q, i', o, rfl, hl50, hl5, hjq, hqm, hqi, hqo, hiF, hoF, r50, r51, r52, r53, r54⟩ := xps_at HO.out HLQ.out (l := gl p.fl k) (fun q hq => hq) HPR.out hlti
 have hi1 : (i : Int) < (ni : Int) := by omega
 have HXD : Hid ((xd q).1 = ⟨q.k, q.b, q.c⟩) := xd_of HO.out HFI.out hqm
 obtain ⟨qk, hqk⟩ : ∃ v, q.k = v := ⟨_, rfl⟩
 obtain ⟨qb, hqb⟩ : ∃ v, q.b = v := ⟨_, rfl⟩
 obtain ⟨qc, hqc⟩ : ∃ v, q.c = v := ⟨_, rfl⟩
 rw [hqk] at r52
 rw [hqb] at r53
 rw [hqc] at r54
 have HXE : Hid ((xd q).1 = ⟨qk, qb, qc⟩) := by rw [← hqk, ← hqb, ← hqc]; exact HXD
 have HJQ := Lib.hid hjq
 have HQM := Lib.hid hqm
 have HQO := Lib.hid hqo
 have HQI := Lib.hid hqi
 rw [HEF.out] at hiF hoF
 clear hqk hqb hqc hjq hqm hqo hqi HXD
 go_upto_region 10 with fail
 refine wp_named (fun V => ∃ g, wq.heap.size = g ∧ Blk V g [.int .i64 i', .int .i64 o, .int .i64 qk, .int .i64 qb, .int .i64 qc] ∧ Kept [] wq V) ⟨_, rfl, Blk.new _ _ _ _ rfl, (Kept.refl _ _).alloc _⟩ ?_
 rintro V1 ⟨gq, eg, Bg, hkV1⟩
 rw [eg]
 have ⟨Lg, Cg, Fg⟩ := Bg
 have TV1 := Lib.hid (TQ.out.keep hkV1)
 have FV1 := Lib.hid (FQ.out.trans (Fx.same (O := RowO N rw) hkV1))
 have ⟨Lv, Cv, Fv⟩ := SB0.out.blk FV1.out HB00.out
 have ⟨Lev, Cev, Fev⟩ := SE0.out.blk FV1.out HBE0.out
 obtain ⟨y0, hy0⟩ : ∃ v, (T2 ea a i').1.k = v := ⟨_, rfl⟩
 obtain ⟨y1, hy1⟩ : ∃ v, (T2 ea a i').1.b = v := ⟨_, rfl⟩
 obtain ⟨y2, hy2⟩ : ∃ v, (T2 ea a i').1.c = v := ⟨_, rfl⟩
 have eY : (T2 ea a i').1 = ⟨y0, y1, y2⟩ := by rw [← hy0, ← hy1, ← hy2]
 obtain ⟨z0, hz0⟩ : ∃ v, (comp (T2 ea a i') (xd q)).1.k = v := ⟨_, rfl⟩
 obtain ⟨z1, hz1⟩ : ∃ v, (comp (T2 ea a i') (xd q)).1.b = v := ⟨_, rfl⟩
 obtain ⟨z2, hz2⟩ : ∃ v, (comp (T2 ea a i') (xd q)).1.c = v := ⟨_, rfl⟩
 have eZ : (comp (T2 ea a i') (xd q)).1 = ⟨z0, z1, z2⟩ := by rw [← hz0, ← hz1, ← hz2]
 obtain ⟨bb, hbb⟩ : ∃ bb, (!decide (meet (T2 eb a o) (comp (T2 ea a i') (xd q)) = T2 eb a o)) = bb := ⟨_, rfl⟩
 have HRS : Hid (Rs p T2 (tput T2 eb a o (meet (T2 eb a o) (comp (T2 ea a i') (xd q)))) bb) := by
   rw [← hbb]
   refine Rs.inc heb2 (by rw [HEF.out]; exact hlt) (by rw [HEF.out]; exact hoF) (fun Y hY hle => ?_)
   have h7 := hY.flow k hk HKD.out q HQM.out a
   rw [HEA.out, HEB.out, HQI.out, HQO.out, Int.toNat_natCast, Int.toNat_natCast, Int.toNat_natCast, Int.toNat_natCast] at h7
   exact le_trans h7 (comp_mono (hle _ _ _) (le_refl _))
 have HNO : Hid (bb = false → le (T2 eb a o) (comp (T2 ea a i') (xd q))) := fun h => inc_no (by rw [hbb]; exact h)
 have HAT : Hid (∀ w9, Kept [] V1 w9 → Calls Tryz.prog 57 #[.agg #[.slice K.A1 K.n1 K.c1, .slice K.A2 K.n2 K.c2, .int .i64 mn, .int .i64 (f : Nat), .slice K.A3 K.n3 K.c3, .slice K.A4 K.n4 K.c4, .slice (some ⟨go, 0, none⟩) N cN], .int .i64 a, .int .i64 ea, .int .i64 i'] w9 fun e w' => e = .returned (.agg #[.int .i64 y0, .int .i64 y1, .int .i64 y2]) ∧ Below w9.heap.size w9 w') := fun w9 hk9 => rat_any w9 a ea i' (TV1.out.keep hk9) heaN hlt hiF hf2 eY
 have HCO : Hid (∀ w9, Calls Tryz.prog 163 #[.agg #[.int .i64 y0, .int .i64 y1, .int .i64 y2], .agg #[.int .i64 qk, .int .i64 qb, .int .i64 qc]] w9 fun e w' => e = .returned (.agg #[.int .i64 z0, .int .i64 z1, .int .i64 z2]) ∧ Below w9.heap.size w9 w') := fun w9 => rcompD_any _ _ _ _ _ _ _ _ _ _ _ eY HXE.out eZ w9
 have HIN : Hid (∀ w9, Kept [] V1 w9 → Calls Tryz.prog 102 #[.agg #[.slice K.A1 K.n1 K.c1, .slice K.A2 K.n2 K.c2, .int .i64 mn, .int .i64 (f : Nat), .slice K.A3 K.n3 K.c3, .slice K.A4 K.n4 K.c4, .slice (some ⟨go, 0, none⟩) N cN], .int .i64 a, .int .i64 eb, .int .i64 o, .agg #[.int .i64 z0, .int .i64 z1, .int .i64 z2]] w9 fun e w' => e = .returned (.bool bb) ∧ Tw p N f w' go rw rc (tput T2 eb a o (meet (T2 eb a o) (comp (T2 ea a i') (xd q)))) ∧ Kept [rw eb] V1 w') := fun w9 hk9 =>
   (rinc_any w9 a eb o (comp (T2 ea a i') (xd q)) (TV1.out.keep hk9) hebN hlt hoF hf2 eZ).mono (fun e w' ⟨h1, h2, h3⟩ => ⟨by rw [h1, hbb], h2, Kept.next (keptNil hk9) h3 (fun y hy => .inl hy)⟩)
 clear hy0 hy1 hy2 hz0 hz1 hz2 eY eZ hbb r3 e3 hl3 r50 r51 r52 r53 r54 hl5 eg Bg
 refine wp_region_E 16 (fun w' => SX0 V1 w') (by kernel_rfl) (by (exact kp0)) (fun hHeld => ?_)
 refine WE_tk 0 ?_
 refine WE_tk 1 ?_
 refine WE_tk 2 ?_
 refine WE_tk 3 ?_
 refine WE_tk 4 ?_
 refine WE_tk 5 ?_
 refine WE_tk 6 ?_
 refine WE_tk 7 ?_
 refine WE_tk 8 ?_
 refine WE_tk 9 ?_
 refine WE_tk 10 ?_
 refine WE_tk 11 ?_
 refine WE_tk 13 ?_
 refine WE_tk 14 ?_
 refine WE_step 12 rfl (by kernel_rfl) (fun K hK => ?_)
 go_simp
 (first | (go_at_call 57; refine (HAT.out _ (by (exact kpt0))).mono ?_; rintro e w4 ⟨rfl, hb4⟩) | (go_at_call 163; refine (HCO.out _).mono ?_; rintro e w5 ⟨rfl, hb5⟩) | (go_at_call 102; refine (HIN.out _ (by (exact kpt0))).mono ?_; rintro e w7 ⟨rfl, T7, hk7⟩))
 (try go_wp2_with fail)
 refine hK.out _ _ ?_ (fun hHeld => ?_)
 · (exact kp0)
 clear hK K
 refine WE_put ?_
 refine WE_step 15 rfl (by kernel_rfl) (fun K hK => ?_)
 go_simp
 (first | (go_at_call 57; refine (HAT.out _ (by (exact kpt0))).mono ?_; rintro e w4 ⟨rfl, hb4⟩) | (go_at_call 163; refine (HCO.out _).mono ?_; rintro e w5 ⟨rfl, hb5⟩) | (go_at_call 102; refine (HIN.out _ (by (exact kpt0))).mono ?_; rintro e w7 ⟨rfl, T7, hk7⟩))
 (try go_wp2_with fail)
 refine hK.out _ _ ?_ (fun hHeld => ?_)
 · (exact kp0)
 clear hK K
 refine WE_put ?_
 refine WE_last rfl (by kernel_rfl) (fun K hK => ?_)
 go_simp
 (first | (go_at_call 57; refine (HAT.out _ (by (exact kpt0))).mono ?_; rintro e w4 ⟨rfl, hb4⟩) | (go_at_call 163; refine (HCO.out _).mono ?_; rintro e w5 ⟨rfl, hb5⟩) | (go_at_call 102; refine (HIN.out _ (by (exact kpt0))).mono ?_; rintro e w7 ⟨rfl, T7, hk7⟩))
 (try go_wp2_with fail)
 refine hK.out _ _ ?_
 clear hK K
 have F7 : Hid (Fx (RowO N rw) (RowO N rw) V0 w7) := FV1.out.trans (RowO.fx hebN hk7)
 have HT7 := Lib.hid T7
 have HR7 : Hid (Rs p T (tput T2 eb a o (meet (T2 eb a o) (comp (T2 ea a i') (xd q)))) (c1' || bb)) := RQ.out.trans HRS.out
 have HNX : Hid ((c1' || bb) = false → ∀ j, j < i + 1 → ∀ q', (gl p.fl k)[j]? = some q' → le (T eb a q'.o.toNat) (comp (T ea a q'.i.toNat) (xd q'))) := fun hb j hj q' hq' => by
   rw [Bool.or_eq_false_iff] at hb
   rcases Nat.lt_or_ge j i with h1 | h1
   · exact DQ.out hb.1 j h1 q' hq'
   · obtain rfl : j = i := by omega
     rw [HJQ.out] at hq'
     injection hq' with hq'
     have h2 := HNO.out hb.2
     rw [RQ.out.same hb.1] at h2
     rw [← hq', HQO.out, HQI.out, Int.toNat_natCast, Int.toNat_natCast]
     exact h2
 have HLEN2 : Hid ((gl p.fl k).length = ni) := HLEN
 clear T7 hk7 Cg Fg Cv Fv Cev Fev Cq Fq Ceq Feq
 cases bb with
 | true =>
   go_wp2_with fail
   exact ⟨⟨i + 1, true, _, by rw [HLEN2.out]; omega, rfl, by go_num, HT7, F7, by have h9 := HR7.out; rw [Bool.or_true] at h9; exact h9, (fun h => by cases h), (fun h => by cases h)⟩, by simp [intOf]; rw [HLEN2.out]; omega⟩
 | false =>
   have HR8 : Hid (Rs p T (tput T2 eb a o (meet (T2 eb a o) (comp (T2 ea a i') (xd q)))) c1') := by have h9 := HR7.out; rw [Bool.or_false] at h9; exact h9
   have HNX2 : Hid (c1' = false → ∀ j, j < i + 1 → ∀ q', (gl p.fl k)[j]? = some q' → le (T eb a q'.o.toNat) (comp (T ea a q'.i.toNat) (xd q'))) := by have h9 := HNX.out; rw [Bool.or_false] at h9; exact h9
   go_wp2_with fail
   exact ⟨⟨i + 1, c1', _, by rw [HLEN2.out]; omega, rfl, by go_num, HT7, F7, HR8, HB1, HNX2⟩, by simp [intOf]; rw [HLEN2.out]; omega⟩
set_option maxRecDepth 100000 in
set_option maxHeartbeats 40000000 in
theorem racross_any {p : Vb} {K : Kn} {w0 : World} {N f go cN : Nat} {mn : Int} {rw rc : Nat → Nat} {T : Nat → Nat → Nat → D} (w : World) (c ra rb qi qo si so : Nat) (rk rcc qk qb qc sk sb sc : Int) (q u : Xp) (hR : Rin p K w0 N f go rw) (hT : Tw p N f w go rw rc T) (hc : c < N) (hra : ra < N) (hrb : rb < N) (hqi : qi < f) (hqo : qo < f) (hsi : si < f) (hso : so < f)
   (hq : (xd q).1 = ⟨qk, qb, qc⟩) (hs : (xd u).1 = ⟨sk, sb, sc⟩)
   (hsnd : ∀ Y, Clo p Y → ∀ a, le (Y rb a so) (comp (comp (comp (Y c a qi) (xd q)) (Y ra qo si)) (xd u))) :
   Calls Tryz.prog 164 #[.agg #[.slice K.A1 K.n1 K.c1, .slice K.A2 K.n2 K.c2, .int .i64 mn, .int .i64 (f : Nat), .slice K.A3 K.n3 K.c3, .slice K.A4 K.n4 K.c4, .slice (some ⟨go, 0, none⟩) N cN], .int .i64 c, .agg #[.int .i64 ra, .int .i64 rb, .int .i64 rk, .int .i64 rcc], .agg #[.int .i64 qi, .int .i64 qo, .int .i64 qk, .int .i64 qb, .int .i64 qc], .agg #[.int .i64 si, .int .i64 so, .int .i64 sk, .int .i64 sb, .int .i64 sc]] w
     (GetR p N f go rw rc w T (∀ a, a < f → le (T rb a so) (comp (comp (comp (T c a qi) (xd q)) (T ra qo si)) (xd u)))) := by
 have hf2 : f ≤ 1024 := by have h1 := hR.ok.f2; have h2 := hR.eF; omega
 have HT := Lib.hid hT
 have HQX := Lib.hid hq
 have HSX := Lib.hid hs
 have HSN := Lib.hid hsnd
 have HEF : Hid (p.F.toNat = f) := by show _ = _; rw [hR.eF, Int.toNat_natCast]
 have HEN := Lib.hid hR.eN
 obtain ⟨y, hy⟩ : ∃ y, T ra qo si = y := ⟨_, rfl⟩
 obtain ⟨y0, hy0⟩ : ∃ v, y.1.k = v := ⟨_, rfl⟩
 obtain ⟨y1, hy1⟩ : ∃ v, y.1.b = v := ⟨_, rfl⟩
 obtain ⟨y2, hy2⟩ : ∃ v, y.1.c = v := ⟨_, rfl⟩
 have eY : y.1 = ⟨y0, y1, y2⟩ := by rw [← hy0, ← hy1, ← hy2]
 obtain ⟨v0, hv0⟩ : ∃ v, (comp (xd q) y).1.k = v := ⟨_, rfl⟩
 obtain ⟨v1, hv1⟩ : ∃ v, (comp (xd q) y).1.b = v := ⟨_, rfl⟩
 obtain ⟨v2, hv2⟩ : ∃ v, (comp (xd q) y).1.c = v := ⟨_, rfl⟩
 have eV : (comp (xd q) y).1 = ⟨v0, v1, v2⟩ := by rw [← hv0, ← hv1, ← hv2]
 obtain ⟨x0, hx0⟩ : ∃ v, (comp (comp (xd q) y) (xd u)).1.k = v := ⟨_, rfl⟩
 obtain ⟨x1, hx1⟩ : ∃ v, (comp (comp (xd q) y) (xd u)).1.b = v := ⟨_, rfl⟩
 obtain ⟨x2, hx2⟩ : ∃ v, (comp (comp (xd q) y) (xd u)).1.c = v := ⟨_, rfl⟩
 have eX : (comp (comp (xd q) y) (xd u)).1 = ⟨x0, x1, x2⟩ := by rw [← hx0, ← hx1, ← hx2]
 have HEX := Lib.hid eX
 have HY := Lib.hid hy
 have HAS : Hid (∀ t : D, comp (comp (comp t (xd q)) y) (xd u) = comp t (comp (comp (xd q) y) (xd u))) := fun t => by rw [comp_assoc t, comp_assoc t]
 have HA0 : Hid (∀ w9, Kept [] w w9 → Calls Tryz.prog 57 #[.agg #[.slice K.A1 K.n1 K.c1, .slice K.A2 K.n2 K.c2, .int .i64 mn, .int .i64 (f : Nat), .slice K.A3 K.n3 K.c3, .slice K.A4 K.n4 K.c4, .slice (some ⟨go, 0, none⟩) N cN], .int .i64 qo, .int .i64 ra, .int .i64 si] w9 fun e w' => e = .returned (.agg #[.int .i64 y0, .int .i64 y1, .int .i64 y2]) ∧ Below w9.heap.size w9 w') := fun w9 hk9 => rat_any w9 qo ra si (hT.keep hk9) hra hqo hsi hf2 (by rw [hy]; exact eY)
 have HC1 : Hid (∀ w9, Calls Tryz.prog 163 #[.agg #[.int .i64 qk, .int .i64 qb, .int .i64 qc], .agg #[.int .i64 y0, .int .i64 y1, .int .i64 y2]] w9 fun e w' => e = .returned (.agg #[.int .i64 v0, .int .i64 v1, .int .i64 v2]) ∧ Below w9.heap.size w9 w') := fun w9 => rcompD_any _ _ _ _ _ _ _ _ _ _ _ hq eY eV w9
 have HC2 : Hid (∀ w9, Calls Tryz.prog 163 #[.agg #[.int .i64 v0, .int .i64 v1, .int .i64 v2], .agg #[.int .i64 sk, .int .i64 sb, .int .i64 sc]] w9 fun e w' => e = .returned (.agg #[.int .i64 x0, .int .i64 x1, .int .i64 x2]) ∧ Below w9.heap.size w9 w') := fun w9 => rcompD_any _ _ _ _ _ _ _ _ _ _ _ eV hs eX w9
 rw [hy]
 clear hR hT hq hs hsnd hy hy0 hy1 hy2 hv0 hv1 hv2 hx0 hx1 hx2 eY eV eX
 go_enter Tryz.func164, Tryz.ntmps164
 go_upto_region 1 with fail
 refine wp_named (fun W => ∃ b0 b1 b2 b3, w.heap.size = b0 ∧ w.heap.size + 1 = b1 ∧ w.heap.size + 1 + 1 = b2 ∧ w.heap.size + 1 + 1 + 1 = b3 ∧ Blk W b0 [.slice K.A1 K.n1 K.c1, .slice K.A2 K.n2 K.c2, .int .i64 mn, .int .i64 (f : Nat), .slice K.A3 K.n3 K.c3, .slice K.A4 K.n4 K.c4, .slice (some ⟨go, 0, none⟩) N cN] ∧ Blk W b1 [.int .i64 ra, .int .i64 rb, .int .i64 rk, .int .i64 rcc] ∧ Blk W b2 [.int .i64 qi, .int .i64 qo, .int .i64 qk, .int .i64 qb, .int .i64 qc] ∧ Blk W b3 [.int .i64 si, .int .i64 so, .int .i64 sk, .int .i64 sb, .int .i64 sc] ∧ Below w.heap.size w W) ⟨_, _, _, _, rfl, rfl, rfl, rfl, ?_, ?_, ?_, ?_, ?_⟩ ?_
 · exact (((Blk.new _ _ _ _ (by first | rfl | simp)).alloc _).alloc _).alloc _
 · exact ((Blk.new _ _ _ _ (by first | rfl | simp)).alloc _).alloc _
 · exact (Blk.new _ _ _ _ (by first | rfl | simp)).alloc _
 · exact kbn
 · go_grown
 rintro W ⟨b0, b1, b2, b3, e0, e1, e2, e3, B0, B1, B2, B3, hB⟩
 rw [e3, e2, e1, e0]
 have G0 : w.heap.size ≤ b0 := by omega
 have n01 : b0 ≠ b1 := by omega
 have n02 : b0 ≠ b2 := by omega
 have n03 : b0 ≠ b3 := by omega
 have G1 : w.heap.size ≤ b1 := by omega
 have n10 : b1 ≠ b0 := by omega
 have n12 : b1 ≠ b2 := by omega
 have n13 : b1 ≠ b3 := by omega
 have G2 : w.heap.size ≤ b2 := by omega
 have n20 : b2 ≠ b0 := by omega
 have n21 : b2 ≠ b1 := by omega
 have n23 : b2 ≠ b3 := by omega
 have G3 : w.heap.size ≤ b3 := by omega
 have n30 : b3 ≠ b0 := by omega
 have n31 : b3 ≠ b1 := by omega
 have n32 : b3 ≠ b2 := by omega
 clear e0 e1 e2 e3
 have ⟨L0, C0, F0⟩ := B0
 have ⟨L1, C1, F1⟩ := B1
 have ⟨L2, C2, F2⟩ := B2
 have ⟨L3, C3, F3⟩ := B3
 have hkW : Kept [] w W := (Kept.refl _ _).call hB
 have SBs : ∀ z, w.heap.size ≤ z → z < W.heap.size → SafeB (RowO N rw) W z := fun z h1 h2 => ⟨h2, fun ⟨n, hn, e⟩ => by have h3 := HT.out.lt n hn; omega⟩
 have S0 := Lib.hid (SBs b0 G0 L0)
 have S1 := Lib.hid (SBs b1 G1 L1)
 have S2 := Lib.hid (SBs b2 G2 L2)
 have S3 := Lib.hid (SBs b3 G3 L3)
 have H0 := Lib.hid B0
 have H1 := Lib.hid B1
 have H2 := Lib.hid B2
 have H3 := Lib.hid B3
 clear SBs
 go_upto_region 2 with fail
 go_cut [12] (fun s9 wx => ∃ g : Nat, s9 = .pointer (some ⟨g, 0, none⟩) ∧ Blk wx g [.int .i64 x0, .int .i64 x1, .int .i64 x2] ∧ Kept [] W wx ∧ W.heap.size ≤ g)
 case first =>
   go_region_held3 (fun w' => SX0 W w') (exact kp0) (first | (go_at_call 57; refine (HA0.out _ (keptTrans hkW (by (exact kpt0)))).mono ?_; rintro e w2 ⟨rfl, hb2⟩; obtain ⟨hc2, hf2, hg2⟩ := bcell hb2; have hz2 := hb2.size; try simp at hz2) | (go_at_call 163; (with_reducible refine (HC1.out _).mono ?_); rintro e w3 ⟨rfl, hb3⟩; obtain ⟨hc3, hf3, hg3⟩ := bcell hb3; have hz3 := hb3.size; (try simp at hz3); (try have hy3 := Nat.lt_of_lt_of_le hz2 hz3)) | (go_at_call 163; (with_reducible refine (HC2.out _).mono ?_); rintro e w4 ⟨rfl, hb4⟩; obtain ⟨hc4, hf4, hg4⟩ := bcell hb4; have hz4 := hb4.size; (try simp at hz4); (try have hy4 := Nat.lt_of_lt_of_le hz3 hz4); (try have hy5 := Nat.lt_of_lt_of_le hy3 hz4)))
   all_goals
     go_wp2_with fail
     go_meet
     refine ⟨_, rfl, ?_, ?_, ?_⟩
     · (exact kpb)
     · (exact kpt0)
     · first | (simp; done) | omega | (simp; omega)
 case rest =>
 obtain ⟨gd, rfl, Bgd, hkc, hgd⟩ := hcut
 have hkw0 : Kept [] w wc := keptTrans hkW hkc
 have TV := Lib.hid (HT.out.keep hkw0)
 have SD : Hid (SafeB (RowO N rw) wc gd) := ⟨Bgd.1, fun ⟨n, hn, e⟩ => by have h3 := HT.out.lt n hn; have := hkW.size; omega⟩
 have HD := Lib.hid Bgd
 have S0c : Hid (SafeB (RowO N rw) wc b0) := S0.out.fx (Fx.same (O := RowO N rw) hkc)
 have S1c : Hid (SafeB (RowO N rw) wc b1) := S1.out.fx (Fx.same (O := RowO N rw) hkc)
 have S2c : Hid (SafeB (RowO N rw) wc b2) := S2.out.fx (Fx.same (O := RowO N rw) hkc)
 have S3c : Hid (SafeB (RowO N rw) wc b3) := S3.out.fx (Fx.same (O := RowO N rw) hkc)
 have H0c := Lib.hid (hkc.blk (by simp) H0.out)
 have H1c := Lib.hid (hkc.blk (by simp) H1.out)
 have H2c := Lib.hid (hkc.blk (by simp) H2.out)
 have H3c := Lib.hid (hkc.blk (by simp) H3.out)
 have Fw : Hid (Fx (RowO N rw) (RowO N rw) w wc) := Fx.same hkw0
 obtain ⟨V0, hV0⟩ : ∃ V, V = wc := ⟨_, rfl⟩
 subst hV0
 have ⟨L0c, C0c, F0c⟩ := H0c.out
 clear C0 F0 C1 F1 C2 F2 C3 F3 Bgd
 go_upto_region 4 with fail
 go_loopw [11, 13] (fun s11 s13 wr => ∃ (a : Nat) (d1 : Bool) (T1 : Nat → Nat → Nat → D), a ≤ f ∧ s11 = .bool d1 ∧ s13 = .int .i64 a ∧ Hid (Tw p N f wr go rw rc T1) ∧ Hid (Fx (RowO N rw) (RowO N rw) V0 wr) ∧ Hid (Rs p T T1 d1) ∧ Hid (d1 = false → ∀ a', a' < a → le (T rb a' so) (comp (comp (comp (T c a' qi) (xd q)) y) (xd u)))) (fun _ s13 _ => f - (intOf s13).toNat)
 case atStart => exact ⟨0, false, T, Nat.zero_le _, rfl, rfl, TV, Lib.hid (Fx.refl _ _), Rs.refl p T, fun _ a' ha' => absurd ha' (Nat.not_lt_zero _)⟩
 case round =>
 rename World => wr
 clear TV C0c F0c
 obtain ⟨a, d1, T1, ha, rfl, rfl, TR, FR, RS, DN⟩ := hrel
 have ⟨L0r, C0r, F0r⟩ := S0c.out.blk FR.out H0c.out
 have ⟨L1r, C1r, F1r⟩ := S1c.out.blk FR.out H1c.out
 have ⟨L2r, C2r, F2r⟩ := S2c.out.blk FR.out H2c.out
 have ⟨L3r, C3r, F3r⟩ := S3c.out.blk FR.out H3c.out
 have ⟨Ldr, Cdr, Fdr⟩ := SD.out.blk FR.out HD.out
 by_cases hlt : a < f
 case neg =>
   obtain rfl : a = f := by omega
   go_wp2_with fail
   go_ret
   exact ⟨d1, T1, rfl, TR.out, Fw.out.trans FR.out, RS.out, DN.out⟩
 have ha1 : (a : Int) < (f : Int) := by omega
 obtain ⟨t0, ht0⟩ : ∃ v, (T1 c a qi).1.k = v := ⟨_, rfl⟩
 obtain ⟨t1, ht1⟩ : ∃ v, (T1 c a qi).1.b = v := ⟨_, rfl⟩
 obtain ⟨t2, ht2⟩ : ∃ v, (T1 c a qi).1.c = v := ⟨_, rfl⟩
 have eT : (T1 c a qi).1 = ⟨t0, t1, t2⟩ := by rw [← ht0, ← ht1, ← ht2]
 obtain ⟨z0, hz0⟩ : ∃ v, (comp (T1 c a qi) (comp (comp (xd q) y) (xd u))).1.k = v := ⟨_, rfl⟩
 obtain ⟨z1, hz1⟩ : ∃ v, (comp (T1 c a qi) (comp (comp (xd q) y) (xd u))).1.b = v := ⟨_, rfl⟩
 obtain ⟨z2, hz2⟩ : ∃ v, (comp (T1 c a qi) (comp (comp (xd q) y) (xd u))).1.c = v := ⟨_, rfl⟩
 have eZ : (comp (T1 c a qi) (comp (comp (xd q) y) (xd u))).1 = ⟨z0, z1, z2⟩ := by rw [← hz0, ← hz1, ← hz2]
 obtain ⟨bb, hbb⟩ : ∃ bb, (!decide (meet (T1 rb a so) (comp (T1 c a qi) (comp (comp (xd q) y) (xd u))) = T1 rb a so)) = bb := ⟨_, rfl⟩
 have HRS : Hid (Rs p T1 (tput T1 rb a so (meet (T1 rb a so) (comp (T1 c a qi) (comp (comp (xd q) y) (xd u))))) bb) := by
   rw [← hbb]
   refine Rs.inc (by rw [← HEN.out]; exact hrb) (by rw [HEF.out]; exact hlt) (by rw [HEF.out]; exact hso) (fun Y hY hle => ?_)
   have h7 := HSN.out Y hY a
   refine le_trans h7 ?_
   rw [← HAS.out]
   refine comp_mono (comp_mono (comp_mono (hle _ _ _) (le_refl _)) ?_) (le_refl _)
   rw [← HY.out]
   exact le_trans (hle _ _ _) (RS.out.le _ _ _)
 have HNO : Hid (bb = false → le (T1 rb a so) (comp (T1 c a qi) (comp (comp (xd q) y) (xd u)))) := fun h => inc_no (by rw [hbb]; exact h)
 have HAT : Hid (∀ w9, Kept [] wr w9 → Calls Tryz.prog 57 #[.agg #[.slice K.A1 K.n1 K.c1, .slice K.A2 K.n2 K.c2, .int .i64 mn, .int .i64 (f : Nat), .slice K.A3 K.n3 K.c3, .slice K.A4 K.n4 K.c4, .slice (some ⟨go, 0, none⟩) N cN], .int .i64 a, .int .i64 c, .int .i64 qi] w9 fun e w' => e = .returned (.agg #[.int .i64 t0, .int .i64 t1, .int .i64 t2]) ∧ Below w9.heap.size w9 w') := fun w9 hk9 => rat_any w9 a c qi (TR.out.keep hk9) hc hlt hqi hf2 eT
 have HCO : Hid (∀ w9, Calls Tryz.prog 163 #[.agg #[.int .i64 t0, .int .i64 t1, .int .i64 t2], .agg #[.int .i64 x0, .int .i64 x1, .int .i64 x2]] w9 fun e w' => e = .returned (.agg #[.int .i64 z0, .int .i64 z1, .int .i64 z2]) ∧ Below w9.heap.size w9 w') := fun w9 => rcompD_any _ _ _ _ _ _ _ _ _ _ _ eT HEX.out eZ w9
 have HIN : Hid (∀ w9, Kept [] wr w9 → Calls Tryz.prog 102 #[.agg #[.slice K.A1 K.n1 K.c1, .slice K.A2 K.n2 K.c2, .int .i64 mn, .int .i64 (f : Nat), .slice K.A3 K.n3 K.c3, .slice K.A4 K.n4 K.c4, .slice (some ⟨go, 0, none⟩) N cN], .int .i64 a, .int .i64 rb, .int .i64 so, .agg #[.int .i64 z0, .int .i64 z1, .int .i64 z2]] w9 fun e w' => e = .returned (.bool bb) ∧ Tw p N f w' go rw rc (tput T1 rb a so (meet (T1 rb a so) (comp (T1 c a qi) (comp (comp (xd q) y) (xd u))))) ∧ Kept [rw rb] wr w') := fun w9 hk9 =>
   (rinc_any w9 a rb so _ (TR.out.keep hk9) hrb hlt hso hf2 eZ).mono (fun e w' ⟨h1, h2, h3⟩ => ⟨by rw [h1, hbb], h2, Kept.next (keptNil hk9) h3 (fun y hy => .inl hy)⟩)
 clear ht0 ht1 ht2 hz0 hz1 hz2 eT eZ hbb
 go_upto_region 6 with fail
 refine wp_region_E 14 (fun w' => SX0 wr w') (by kernel_rfl) (by (exact kp0)) (fun hHeld => ?_)
 refine WE_tk 0 ?_
 refine WE_tk 1 ?_
 refine WE_tk 2 ?_
 refine WE_tk 3 ?_
 refine WE_tk 4 ?_
 refine WE_tk 5 ?_
 refine WE_tk 6 ?_
 refine WE_tk 7 ?_
 refine WE_tk 8 ?_
 refine WE_tk 9 ?_
 refine WE_tk 10 ?_
 refine WE_tk 12 ?_
 refine WE_step 11 rfl (by kernel_rfl) (fun K hK => ?_)
 go_simp
 (first | (go_at_call 57; refine (HAT.out _ (by (exact kpt0))).mono ?_; rintro e w4 ⟨rfl, hb4⟩) | (go_at_call 163; refine (HCO.out _).mono ?_; rintro e w5 ⟨rfl, hb5⟩) | (go_at_call 102; refine (HIN.out _ (by (exact kpt0))).mono ?_; rintro e w7 ⟨rfl, T7, hk7⟩))
 (try go_wp2_with fail)
 refine hK.out _ _ ?_ (fun hHeld => ?_)
 · (exact kp0)
 clear hK K
 refine WE_put ?_
 refine WE_step 13 rfl (by kernel_rfl) (fun K hK => ?_)
 go_simp
 (first | (go_at_call 57; refine (HAT.out _ (by (exact kpt0))).mono ?_; rintro e w4 ⟨rfl, hb4⟩) | (go_at_call 163; refine (HCO.out _).mono ?_; rintro e w5 ⟨rfl, hb5⟩) | (go_at_call 102; refine (HIN.out _ (by (exact kpt0))).mono ?_; rintro e w7 ⟨rfl, T7, hk7⟩))
 (try go_wp2_with fail)
 refine hK.out _ _ ?_ (fun hHeld => ?_)
 · (exact kp0)
 clear hK K
 refine WE_put ?_
 refine WE_last rfl (by kernel_rfl) (fun K hK => ?_)
 go_simp
 (first | (go_at_call 57; refine (HAT.out _ (by (exact kpt0))).mono ?_; rintro e w4 ⟨rfl, hb4⟩) | (go_at_call 163; refine (HCO.out _).mono ?_; rintro e w5 ⟨rfl, hb5⟩) | (go_at_call 102; refine (HIN.out _ (by (exact kpt0))).mono ?_; rintro e w7 ⟨rfl, T7, hk7⟩))
 (try go_wp2_with fail)
 refine hK.out _ _ ?_
 clear hK K
 have F7 : Hid (Fx (RowO N rw) (RowO N rw) V0 w7) := FR.out.trans (RowO.fx hrb hk7)
 have HT7 := Lib.hid T7
 have HR7 : Hid (Rs p T (tput T1 rb a so (meet (T1 rb a so) (comp (T1 c a qi) (comp (comp (xd q) y) (xd u))))) (d1 || bb)) := RS.out.trans HRS.out
 have HNX : Hid ((d1 || bb) = false → ∀ a', a' < a + 1 → le (T rb a' so) (comp (comp (comp (T c a' qi) (xd q)) y) (xd u))) := fun hb a' ha' => by
   rw [Bool.or_eq_false_iff] at hb
   rcases Nat.lt_or_ge a' a with h1 | h1
   · exact DN.out hb.1 a' h1
   · obtain rfl : a' = a := by omega
     have h2 := HNO.out hb.2
     rw [RS.out.same hb.1] at h2
     rw [HAS.out]
     exact h2
 clear T7 hk7 C0r F0r C1r F1r C2r F2r C3r F3r Cdr Fdr
 cases bb with
 | true =>
   go_wp2_with fail
   exact ⟨⟨a + 1, true, _, by omega, rfl, by go_num, HT7, F7, by have h9 := HR7.out; rw [Bool.or_true] at h9; exact h9, (fun h => by cases h)⟩, by simp [intOf]; omega⟩
 | false =>
   have HR8 : Hid (Rs p T (tput T1 rb a so (meet (T1 rb a so) (comp (T1 c a qi) (comp (comp (xd q) y) (xd u))))) d1) := by have h9 := HR7.out; rw [Bool.or_false] at h9; exact h9
   have HNX2 : Hid (d1 = false → ∀ a', a' < a + 1 → le (T rb a' so) (comp (comp (comp (T c a' qi) (xd q)) y) (xd u))) := by have h9 := HNX.out; rw [Bool.or_false] at h9; exact h9
   go_wp2_with fail
   exact ⟨⟨a + 1, d1, _, by omega, rfl, by go_num, HT7, F7, HR8, HNX2⟩, by simp [intOf]; omega⟩
end Go.Proofs.YtincpmdldpakkaaGreatDoor
