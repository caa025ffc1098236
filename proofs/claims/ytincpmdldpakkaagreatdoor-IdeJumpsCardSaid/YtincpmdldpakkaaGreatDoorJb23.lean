/- Texts: Cw Bu By. -/
import Derived.Test.YtincpmdldpakkaaGreatDoorJb22
import Derived.Test.YtincpmdldpakkaaGreatDoorJb10
import Derived.Test.YtincpmdldpakkaaGreatDoorJb20
namespace Go.Df.Iv
open Go Go.RowKit Go.Df.Sp
def RC (p : Vb) (k c : Nat) : Prop := (ge p.es c).k = 2 ∧ (ge p.es c).a = (ge p.es k).c ∧ (gn p.ns (ge p.es c).b.toNat).f = (gn p.ns (ge p.es k).a.toNat).f
def RQ (p : Vb) (T : Nat → Nat → Nat → D) (k c f : Nat) (q u : Xp) : Prop := ∀ a, a < f → le (T (ge p.es k).b.toNat a u.o.toNat) (comp (comp (comp (T (ge p.es c).a.toNat a q.i.toNat) (xd q)) (T (ge p.es k).a.toNat q.o.toNat u.i.toNat)) (xd u))
end Go.Df.Iv
namespace Go.Proofs.YtincpmdldpakkaaGreatDoor
open Go.RowKit Go.Df Go.Df.Iv Go.Df.Sp
theorem GetR.from {p : Vb} {N f go : Nat} {rw rc : Nat → Nat} {v w : World} {T : Nat → Nat → Nat → D} {Q : Prop} {e : Ending} {w' : World} (h : GetR p N f go rw rc w T Q e w') (hk : Kept [] v w) : GetR p N f go rw rc v T Q e w' := by
 obtain ⟨b, T', h1, h2, h3, h4⟩ := h
 exact ⟨b, T', h1, h2, (Fx.same hk).trans h3, h4⟩
attribute [local go_sem ↓] Go.wp_at_zero Go.wp_at_succ
set_option maxRecDepth 100000 in
set_option maxHeartbeats 40000000 in
theorem rreturned_any {p : Vb} {K : Kn} {w0 : World} {N f go cN : Nat} {mn : Int} {rw rc : Nat → Nat} {T : Nat → Nat → Nat → D} (w : World) (k : Nat) (hR : Rin p K w0 N f go rw) (hlow : Below w0.heap.size w0 w) (hT : Tw p N f w go rw rc T) (hk : k < p.es.length) (hkind : (ge p.es k).k = 3 ∨ (ge p.es k).k = 4) :
   Calls Tryz.prog 107 #[.agg #[.slice K.A1 K.n1 K.c1, .slice K.A2 K.n2 K.c2, .int .i64 mn, .int .i64 (f : Nat), .slice K.A3 K.n3 K.c3, .slice K.A4 K.n4 K.c4, .slice (some ⟨go, 0, none⟩) N cN], .int .i64 k] w
     (GetR p N f go rw rc w T (∀ c, c < p.es.length → RC p k c → ∀ q ∈ gl p.fl c, ∀ u ∈ gl p.fl k, RQ p T k c f q u)) := by
 have HR := Lib.hid hR
 have HO := Lib.hid hR.ok
 have HI := Lib.hid hR.inp
 have HFI := Lib.hid hR.fit
 have HT := Lib.hid hT
 have HKD := Lib.hid hkind
 have HLOW := Lib.hid hlow
 have HEF : Hid (p.F.toNat = f) := by show _ = _; rw [hR.eF, Int.toNat_natCast]
 have HEN := Lib.hid hR.eN
 have HEK := Lib.hid hR.eK
 have HES := Lib.hid hR.inp.ed.1
 have hE8 : K.n2 ≤ 32768 := by have := (If.sup_parts hR.ok.sup).2.1; have := hR.inp.ed.1; omega
 obtain ⟨b3, o3, _, _, _, e3, hl30, -⟩ := hR.inp.flow hR.ok (Below.refl _ _) hk
 have HE3 := Lib.hid e3
 rw [e3]
 clear hR hlow hT hkind e3
 go_enter Tryz.func107, Tryz.ntmps107
 go_upto_region 1 with fail
 refine wp_named (fun W => ∃ b0, w.heap.size = b0 ∧ Blk W b0 [.slice K.A1 K.n1 K.c1, .slice K.A2 K.n2 K.c2, .int .i64 mn, .int .i64 (f : Nat), .slice (some ⟨b3, o3, none⟩) K.n3 K.c3, .slice K.A4 K.n4 K.c4, .slice (some ⟨go, 0, none⟩) N cN] ∧ Below w.heap.size w W) ⟨_, rfl, ?_, ?_⟩ ?_
 · exact kbn
 · go_grown
 rintro W ⟨b0, e0, B0, hB⟩
 rw [e0]
 have G0 : w.heap.size ≤ b0 := by omega
 clear e0
 have ⟨L0, C0, F0⟩ := B0
 have hkW : Kept [] w W := (Kept.refl _ _).call hB
 have TW := Lib.hid (HT.out.keep hkW)
 have HLW := Lib.hid (HLOW.out.trans (hkW.toBelow.mono HLOW.out.size))
 have SB : Hid (SafeB (RowO N rw) W b0) := ⟨L0, fun ⟨n, hn, e⟩ => by have h1 := HT.out.lt n hn; omega⟩
 have HB0 := Lib.hid B0
 obtain ⟨b2, o2, ra, rb, e2, hl20, hl2, hk2, hra, hrb, hra2, hrb2, r2a, r2b, r2c, r2d⟩ := HI.out.edge HO.out HLW.out hk
 have HRA := Lib.hid hra
 have HRB := Lib.hid hrb
 obtain ⟨rk, hrk⟩ : ∃ x, (ge p.es k).k = x := ⟨_, rfl⟩
 obtain ⟨rcc, hrc⟩ : ∃ x, (ge p.es k).c = x := ⟨_, rfl⟩
 rw [hrk] at r2c
 rw [hrc] at r2d
 have HRC := Lib.hid hrc
 have hraN : ra < N := by rw [HEN.out]; exact hra2
 have hrbN : rb < N := by rw [HEN.out]; exact hrb2
 obtain ⟨b1, o1, e1, hl10, hc10⟩ := HI.out.nd.2 (by rw [HEK.out]; omega)
 have HCN := Lib.hid hc10
 clear hra hrb hrk hrc hc10
 have HE1 := Lib.hid e1
 have HE2 := Lib.hid e2
 clear e1 e2
 go_upto_region 3 with fail
 refine wp_named (fun V => ∃ g0, W.heap.size = g0 ∧ Blk V g0 [.slice K.A1 K.n1 K.c1, .slice K.A2 K.n2 K.c2, .int .i64 mn] ∧ Kept [] W V) ⟨_, rfl, Blk.new _ _ _ _ rfl, (Kept.refl _ _).alloc _⟩ ?_
 rintro Vm ⟨g0, eg0, Bgm, hkVm⟩
 rw [eg0]
 have ⟨Lgm, Cgm, Fgm⟩ := Bgm
 have ⟨L0m, C0m, F0m⟩ := hkVm.blk (by simp) B0
 have e2 := HE2.out
 have hl2m : b2 < Vm.heap.size := Nat.lt_of_lt_of_le hl2 hkVm.size
 replace r2a := (hkVm.cell b2 _ hl2 (by simp)).trans r2a
 replace r2b := (hkVm.cell b2 _ hl2 (by simp)).trans r2b
 replace r2c := (hkVm.cell b2 _ hl2 (by simp)).trans r2c
 replace r2d := (hkVm.cell b2 _ hl2 (by simp)).trans r2d
 clear C0 F0
 go_upto_region 4 with fail
 refine wp_named (fun V => ∃ g1, Vm.heap.size = g1 ∧ Blk V g1 [.int .i64 ra, .int .i64 rb, .int .i64 rk, .int .i64 rcc] ∧ Kept [] Vm V) ⟨_, rfl, Blk.new _ _ _ _ rfl, (Kept.refl _ _).alloc _⟩ ?_
 rintro V0 ⟨g1, eg1, Bg1, hkVm0⟩
 rw [eg1]
 have hkV0 : Kept [] W V0 := keptTrans hkVm hkVm0
 have Bg0 := hkVm0.blk (by simp) Bgm
 have hg1W : W.heap.size ≤ g1 := by have := hkVm.size; omega
 have hkw0 : Kept [] w V0 := keptTrans hkW hkV0
 have TV := Lib.hid (HT.out.keep hkw0)
 have HLV := Lib.hid (HLW.out.trans (hkV0.toBelow.mono HLW.out.size))
 have SB0 : Hid (SafeB (RowO N rw) V0 b0) := SB.out.fx (Fx.same (O := RowO N rw) hkV0)
 have HB00 : Hid (Blk V0 b0 [.slice K.A1 K.n1 K.c1, .slice K.A2 K.n2 K.c2, .int .i64 mn, .int .i64 (f : Nat), .slice (some ⟨b3, o3, none⟩) K.n3 K.c3, .slice K.A4 K.n4 K.c4, .slice (some ⟨go, 0, none⟩) N cN]) := hkV0.blk (by simp) HB0.out
 have SG0 : Hid (SafeB (RowO N rw) V0 g0) := ⟨Bg0.1, fun ⟨n, hn, e⟩ => by have h1 := TW.out.lt n hn; omega⟩
 have SG1 : Hid (SafeB (RowO N rw) V0 g1) := ⟨Bg1.1, fun ⟨n, hn, e⟩ => by have h1 := TW.out.lt n hn; omega⟩
 have HG0 := Lib.hid Bg0
 have HG1 := Lib.hid Bg1
 have hbs : Hid (∀ x, RowO N rw x → w0.heap.size ≤ x) := fun x ⟨n, hn, e⟩ => by rw [e]; exact HR.out.base n hn
 have Fw : Hid (Fx (RowO N rw) (RowO N rw) w V0) := Fx.same hkw0
 clear r2a r2b r2c r2d hl2 hl2m eg0 eg1 Bg0 Bg1 Bgm Cgm Fgm C0m F0m e2
 go_wp2_with fail
 go_loopw [5, 8] (fun s6 s8 wr => ∃ (i : Nat) (d1 : Bool) (T1 : Nat → Nat → Nat → D), i ≤ K.n2 ∧ s6 = .bool d1 ∧ s8 = .int .i64 i ∧ Hid (Tw p N f wr go rw rc T1) ∧ Hid (Fx (RowO N rw) (RowO N rw) V0 wr) ∧ Hid (Rs p T T1 d1) ∧ Hid (d1 = false → ∀ c, c < i → RC p k c → ∀ q ∈ gl p.fl c, ∀ u ∈ gl p.fl k, RQ p T k c f q u)) (fun _ s8 _ => K.n2 - (intOf s8).toNat)
 case atStart => exact ⟨0, false, T, Nat.zero_le _, rfl, rfl, TV, Lib.hid (Fx.refl _ _), Lib.hid (Rs.refl p T), Lib.hid (fun _ c hc => absurd hc (Nat.not_lt_zero _))⟩
 case round =>
 rename World => wr
 clear TV
 obtain ⟨i, d1, T1, hi, rfl, rfl, TR, FR, RS, DN⟩ := hrel
 have ⟨L0r, C0r, F0r⟩ := SB0.out.blk FR.out HB00.out
 have ⟨Lg0r, Cg0r, Fg0r⟩ := SG0.out.blk FR.out HG0.out
 have ⟨Lg1r, Cg1r, Fg1r⟩ := SG1.out.blk FR.out HG1.out
 by_cases hlt : i < K.n2
 case neg =>
   obtain rfl : i = K.n2 := by omega
   have HRES : Hid (d1 = false → ∀ c, c < p.es.length → RC p k c → ∀ q ∈ gl p.fl c, ∀ u ∈ gl p.fl k, RQ p T k c f q u) := fun hb c hc => DN.out hb c (by rw [← HES.out]; exact hc)
   go_wp2_with fail
   go_ret
   exact ⟨d1, T1, rfl, TR.out, Fw.out.trans FR.out, RS.out, HRES.out⟩
 have hi1 : (i : Int) < (K.n2 : Int) := by omega
 have hie : i < p.es.length := by rw [HES.out]; exact hlt
 have HLR := Lib.hid (FR.out.below HLV.out hbs.out)
 obtain ⟨b2', o2', ca, cb, e2', hl20', hl2, hk2', hca, hcb, hca2, hcb2, r2a, r2b, r2c, r2d⟩ := HI.out.edge HO.out HLR.out hie
 obtain ⟨ck, hck⟩ : ∃ x, (ge p.es i).k = x := ⟨_, rfl⟩
 obtain ⟨cc, hcc⟩ : ∃ x, (ge p.es i).c = x := ⟨_, rfl⟩
 rw [hck] at r2c
 rw [hcc] at r2d
 have hcaN : ca < N := by rw [HEN.out]; exact hca2
 have hcbN : cb < N := by rw [HEN.out]; exact hcb2
 have HCA := Lib.hid hca
 have HCB := Lib.hid hcb
 have HCK := Lib.hid hck
 clear hca hcb hck hcc
 go_upto_region 8 with fail
 refine wp_named (fun U => ∃ g, wr.heap.size = g ∧ Blk U g [.int .i64 ca, .int .i64 cb, .int .i64 ck, .int .i64 cc] ∧ Kept [] wr U) ⟨_, rfl, Blk.new _ _ _ _ rfl, (Kept.refl _ _).alloc _⟩ ?_
 rintro U ⟨gc, ec, Bc, hkU⟩
 rw [ec]
 have TU := Lib.hid (TR.out.keep hkU)
 have FU := Lib.hid (FR.out.trans (Fx.same (O := RowO N rw) hkU))
 have SGC : Hid (SafeB (RowO N rw) U gc) := ⟨Bc.1, fun ⟨n, hn, e⟩ => by have h1 := TR.out.lt n hn; omega⟩
 have HGC := Lib.hid Bc
 have HLU := Lib.hid (FU.out.below HLV.out hbs.out)
 have ⟨LcU, CcU, FcU⟩ := Bc
 clear C0r F0r Cg0r Fg0r Cg1r Fg1r r2a r2b r2c r2d hl2 e2' ec Bc
 have ⟨L0U, C0U, F0U⟩ := SB0.out.blk FU.out HB00.out
 have ⟨Lg0U, Cg0U, Fg0U⟩ := SG0.out.blk FU.out HG0.out
 have ⟨Lg1U, Cg1U, Fg1U⟩ := SG1.out.blk FU.out HG1.out
 have e1 := HE1.out
 have hl1U : b1 < U.heap.size := Nat.lt_of_lt_of_le hl10 HLU.out.size
 obtain ⟨nfc, hnfc⟩ : ∃ x, (gn p.ns cb).f = x := ⟨_, rfl⟩
 obtain ⟨nfr, hnfr⟩ : ∃ x, (gn p.ns ra).f = x := ⟨_, rfl⟩
 have f1 := (HLU.out.cell (p := ⟨b1, _, none⟩) hl10).trans (HCN.out cb (by rw [HEK.out]; exact hcbN)).1
 have f2 := (HLU.out.cell (p := ⟨b1, _, none⟩) hl10).trans (HCN.out ra (by rw [HEK.out]; exact hraN)).1
 rw [hnfc] at f1
 rw [hnfr] at f2
 have hcb9 : (cb : Int) < (K.n1 : Int) := by have := HEK.out; omega
 have hra9 : (ra : Int) < (K.n1 : Int) := by have := HEK.out; omega
 have HRCC : Hid (RC p k i ↔ ck = 2 ∧ (ca : Int) = rcc ∧ nfc = nfr) := by
   show _ ↔ _
   unfold RC
   rw [HCA.out, HCB.out, HRA.out, HCK.out, HRC.out, Int.toNat_natCast, Int.toNat_natCast, ← hnfc, ← hnfr]
 have HSK : Hid (¬ RC p k i → d1 = false → ∀ c, c < i + 1 → RC p k c → ∀ q ∈ gl p.fl c, ∀ u ∈ gl p.fl k, RQ p T k c f q u) := fun hn hd c hc hrc => by
   rcases Nat.lt_or_ge c i with h1 | h1
   · exact DN.out hd c h1 hrc
   · obtain rfl : c = i := by omega
     exact absurd hrc hn
 clear hnfc hnfr
 by_cases k1 : ck = 2
 case neg =>
   have z1 : (ck != 2) = true := by simpa using k1
   have HE := Lib.hid (HSK.out (fun h => k1 (HRCC.out.1 h).1))
   clear k1
   go_quiet (fail)
   go_wp2_with fail
   exact ⟨⟨i + 1, d1, T1, by omega, rfl, by go_num, Lib.hid (TU.out.keep ((Kept.refl [] U).drewN _)), Lib.hid (FU.out.trans (Fx.same (O := RowO N rw) ((Kept.refl [] U).drewN _))), RS, HE⟩, by simp [intOf]; omega⟩
 by_cases k2 : (ca : Int) = rcc
 case neg =>
   have z0 : (ck != 2) = false := by simpa using k1
   have z1 : ((ca : Int) != rcc) = true := by simpa using k2
   have HE := Lib.hid (HSK.out (fun h => k2 (HRCC.out.1 h).2.1))
   clear k1 k2
   go_quiet (fail)
   go_wp2_with fail
   exact ⟨⟨i + 1, d1, T1, by omega, rfl, by go_num, Lib.hid (TU.out.keep ((Kept.refl [] U).drewN _)), Lib.hid (FU.out.trans (Fx.same (O := RowO N rw) ((Kept.refl [] U).drewN _))), RS, HE⟩, by simp [intOf]; omega⟩
 by_cases k3 : nfc = nfr
 case neg =>
   have z0 : (ck != 2) = false := by simpa using k1
   have z2 : ((ca : Int) != rcc) = false := by simpa using k2
   have z1 : (nfc != nfr) = true := by simpa using k3
   have HE := Lib.hid (HSK.out (fun h => k3 (HRCC.out.1 h).2.2))
   clear k1 k2 k3
   go_quiet (fail)
   go_wp2_with fail
   exact ⟨⟨i + 1, d1, T1, by omega, rfl, by go_num, Lib.hid (TU.out.keep ((Kept.refl [] U).drewN _)), Lib.hid (FU.out.trans (Fx.same (O := RowO N rw) ((Kept.refl [] U).drewN _))), RS, HE⟩, by simp [intOf]; omega⟩
 have HRCI := Lib.hid (HRCC.out.2 ⟨k1, k2, k3⟩)
 go_cut [58] (fun s wx => s = .bool false ∧ Kept [] U wx)
 case first =>
   have z0 : (ck != 2) = false := by simpa using k1
   have z2 : ((ca : Int) != rcc) = false := by simpa using k2
   have z3 : (nfc != nfr) = false := by simpa using k3
   clear k1 k2 k3
   go_quiet (fail)
   go_wp2_with fail
   go_meet
   exact ⟨rfl, (Kept.refl [] U).drewN _⟩
 case rest =>
 obtain ⟨rfl, hkc⟩ := hcut
 have TC := Lib.hid (TU.out.keep hkc)
 have FC := Lib.hid (FU.out.trans (Fx.same (O := RowO N rw) hkc))
 have SGCc : Hid (SafeB (RowO N rw) wc gc) := SGC.out.fx (Fx.same (O := RowO N rw) hkc)
 have HGCc : Hid (Blk wc gc [.int .i64 ca, .int .i64 cb, .int .i64 ck, .int .i64 cc]) := hkc.blk (by simp) HGC.out
 clear C0U F0U Cg0U Fg0U Cg1U Fg1U CcU FcU f1 f2 k1 k2 k3 e1
 have ⟨L0c, C0c, F0c⟩ := SB0.out.blk FC.out HB00.out
 have ⟨Lg0c, Cg0c, Fg0c⟩ := SG0.out.blk FC.out HG0.out
 have ⟨Lg1c, Cg1c, Fg1c⟩ := SG1.out.blk FC.out HG1.out
 obtain ⟨Vc, hVc⟩ : ∃ V, V = wc := ⟨_, rfl⟩
 subst hVc
 have ⟨Lgcc, Cgcc, Fgcc⟩ := HGCc.out
 go_wp2_with fail
 go_loopw [5, 10] (fun s6 s10 wq => ∃ (j : Nat) (d2 : Bool) (T2 : Nat → Nat → Nat → D), j ≤ (gl p.fl i).length ∧ s6 = .bool d2 ∧ s10 = .int .i64 j ∧ Hid (Tw p N f wq go rw rc T2) ∧ Hid (Fx (RowO N rw) (RowO N rw) V0 wq) ∧ Hid (Fx (RowO N rw) (RowO N rw) Vc wq) ∧ Hid (Rs p T T2 d2) ∧ Hid (d2 = false → d1 = false) ∧ Hid (d2 = false → ∀ j', j' < j → ∀ q, (gl p.fl i)[j']? = some q → ∀ u ∈ gl p.fl k, RQ p T k i f q u)) (fun _ s10 _ => (gl p.fl i).length - (intOf s10).toNat)
 case atStart => exact ⟨0, d1, T1, Nat.zero_le _, rfl, rfl, TC, FC, Lib.hid (Fx.refl _ _), RS, Lib.hid (fun h => h), Lib.hid (fun _ j hj => absurd hj (Nat.not_lt_zero _))⟩
 case round =>
 rename World => wq
 clear TR FR RS TU FU TC C0c F0c Cg0c Fg0c Cg1c Fg1c Cgcc Fgcc
 obtain ⟨j, d2, T2, hj, rfl, rfl, TQ, FQ, FQc, RQ2, HB1, DQ⟩ := hrel
 have ⟨L0q, C0q, F0q⟩ := SB0.out.blk FQ.out HB00.out
 have ⟨Lg0q, Cg0q, Fg0q⟩ := SG0.out.blk FQ.out HG0.out
 have ⟨Lg1q, Cg1q, Fg1q⟩ := SG1.out.blk FQ.out HG1.out
 have ⟨Lgcq, Cgcq, Fgcq⟩ := SGCc.out.blk FQc.out HGCc.out
 have HLQ := Lib.hid (FQ.out.below HLV.out hbs.out)
 obtain ⟨b3', o3', Ai, ni, ci, e3, -, hl3, hk3, r3, hci, hxps, hni, hni2⟩ := HI.out.flow HO.out HLQ.out hie
 obtain ⟨rfl, rfl⟩ : b3 = b3' ∧ o3 = o3' := by have h := HE3.out.symm.trans e3; injection h with h; injection h with h1 h2; exact ⟨h1, h2⟩
 clear e3
 have hlen : (gl p.fl i).length = ni := hxps.1
 have HPR := Lib.hid hxps
 have HLEN := Lib.hid hlen
 rw [hlen] at hj
 clear hxps hlen
 by_cases hltj : j < ni
 case neg =>
   obtain rfl : j = ni := by omega
   have HRES : Hid (d2 = false → ∀ c, c < i + 1 → RC p k c → ∀ q ∈ gl p.fl c, ∀ u ∈ gl p.fl k, RQ p T k c f q u) := fun hb c hc hrc q hq => by
     rcases Nat.lt_or_ge c i with h1 | h1
     · exact DN.out (HB1.out hb) c h1 hrc q hq
     · obtain rfl : c = i := by omega
       obtain ⟨j', hj', rfl⟩ := List.getElem_of_mem hq
       exact DQ.out hb j' (by rw [← HLEN.out]; exact hj') _ (List.getElem?_eq_getElem hj')
   go_wp2_with fail
   exact ⟨⟨i + 1, d2, T2, by omega, rfl, by go_num, TQ, FQ, RQ2, HRES⟩, by simp [intOf]; omega⟩
 obtain ⟨b5, o5, q, qi, qo, rfl, hl50, hl5, hjq, hqm, hqi, hqo, hqiF, hqoF, r50, r51, r52, r53, r54⟩ := xps_at HO.out HLQ.out (l := gl p.fl i) (fun q hq => hq) HPR.out hltj
 have hj1 : (j : Int) < (ni : Int) := by omega
 have HXQ : Hid ((xd q).1 = ⟨q.k, q.b, q.c⟩) := xd_of HO.out HFI.out hqm
 have HJQ := Lib.hid hjq
 have HQM := Lib.hid hqm
 have HQO := Lib.hid hqo
 have HQI := Lib.hid hqi
 rw [HEF.out] at hqiF hqoF
 have HCELQ : Hid (∀ w9, Below w0.heap.size w0 w9 → b5 < w9.heap.size ∧ w9.cell? ⟨b5, o5 + j * 5, none⟩ = some (.int .i64 (qi : Nat)) ∧ w9.cell? ⟨b5, o5 + j * 5 + 1, none⟩ = some (.int .i64 (qo : Nat)) ∧ w9.cell? ⟨b5, o5 + j * 5 + 2, none⟩ = some (.int .i64 q.k) ∧ w9.cell? ⟨b5, o5 + j * 5 + 3, none⟩ = some (.int .i64 q.b) ∧ w9.cell? ⟨b5, o5 + j * 5 + 4, none⟩ = some (.int .i64 q.c)) := fun w9 hb9 => by
   have hh := fun x => (hb9.cell (p := ⟨b5, x, none⟩) hl50).trans ((HLQ.out.cell (p := ⟨b5, x, none⟩) hl50).symm)
   exact ⟨Nat.lt_of_lt_of_le hl50 hb9.size, (hh _).trans r50, (hh _).trans r51, (hh _).trans r52, (hh _).trans r53, (hh _).trans r54⟩
 have HCELI : Hid (∀ w9, Below w0.heap.size w0 w9 → w9.cell? ⟨b3, o3 + i, none⟩ = some (.slice (some ⟨b5, o5, none⟩) ni ci)) := fun w9 hb9 => ((hb9.cell (p := ⟨b3, _, none⟩) hl30).trans ((HLQ.out.cell (p := ⟨b3, _, none⟩) hl30).symm)).trans r3
 clear hjq hqm hqo hqi r50 r51 r52 r53 r54
 go_wp2_with fail
 go_loopw [5, 11] (fun s6 s11 wz => ∃ (m : Nat) (d3 : Bool) (T3 : Nat → Nat → Nat → D), m ≤ (gl p.fl k).length ∧ s6 = .bool d3 ∧ s11 = .int .i64 m ∧ Hid (Tw p N f wz go rw rc T3) ∧ Hid (Fx (RowO N rw) (RowO N rw) V0 wz) ∧ Hid (Fx (RowO N rw) (RowO N rw) Vc wz) ∧ Hid (Rs p T T3 d3) ∧ Hid (d3 = false → d2 = false) ∧ Hid (d3 = false → ∀ m', m' < m → ∀ u, (gl p.fl k)[m']? = some u → RQ p T k i f q u)) (fun _ s11 _ => (gl p.fl k).length - (intOf s11).toNat)
 case atStart => exact ⟨0, d2, T2, Nat.zero_le _, rfl, rfl, TQ, FQ, FQc, RQ2, Lib.hid (fun h => h), Lib.hid (fun _ j hj => absurd hj (Nat.not_lt_zero _))⟩
 case round =>
 rename World => wz
 clear TQ RQ2 C0q F0q Cg0q Fg0q Cg1q Fg1q Cgcq Fgcq hl3 hl5 r3
 obtain ⟨m, d3, T3, hm, rfl, rfl, TZ, FZ, FZc, RQ3, HB2, DZ⟩ := hrel
 have ⟨L0z, C0z, F0z⟩ := SB0.out.blk FZ.out HB00.out
 have ⟨Lg0z, Cg0z, Fg0z⟩ := SG0.out.blk FZ.out HG0.out
 have ⟨Lg1z, Cg1z, Fg1z⟩ := SG1.out.blk FZ.out HG1.out
 have ⟨Lgcz, Cgcz, Fgcz⟩ := SGCc.out.blk FZc.out HGCc.out
 have HLZ := Lib.hid (FZ.out.below HLV.out hbs.out)
 obtain ⟨b3', o3', Ak, nk, ck', e3, -, hl3, hk3', r3, hck', hxps, hnk, hnk2⟩ := HI.out.flow HO.out HLZ.out hk
 obtain ⟨rfl, rfl⟩ : b3 = b3' ∧ o3 = o3' := by have h := HE3.out.symm.trans e3; injection h with h; injection h with h1 h2; exact ⟨h1, h2⟩
 clear e3
 have hlen : (gl p.fl k).length = nk := hxps.1
 have HPK := Lib.hid hxps
 have HLENK := Lib.hid hlen
 rw [hlen] at hm
 clear hxps hlen
 by_cases hltm : m < nk
 case neg =>
   obtain rfl : m = nk := by omega
   have HRES : Hid (d3 = false → ∀ j', j' < j + 1 → ∀ q', (gl p.fl i)[j']? = some q' → ∀ u ∈ gl p.fl k, RQ p T k i f q' u) := fun hb j' hj' q' hq' u hu => by
     rcases Nat.lt_or_ge j' j with h1 | h1
     · exact DQ.out (HB2.out hb) j' h1 q' hq' u hu
     · obtain rfl : j' = j := by omega
       rw [HJQ.out] at hq'
       injection hq' with hq'
       subst hq'
       obtain ⟨m', hm', rfl⟩ := List.getElem_of_mem hu
       exact DZ.out hb m' (by rw [← HLENK.out]; exact hm') _ (List.getElem?_eq_getElem hm')
   have HB12 : Hid (d3 = false → d1 = false) := fun h => HB1.out (HB2.out h)
   go_wp2_with fail
   exact ⟨⟨j + 1, d3, T3, by rw [HLEN.out]; omega, rfl, by go_num, TZ, FZ, FZc, RQ3, HB12, HRES⟩, by simp [intOf]; rw [HLEN.out]; omega⟩
 obtain ⟨b6, o6, u, si, so, rfl, hl60, hl6, hju, hum, hsi, hso, hsiF, hsoF, r60, r61, r62, r63, r64⟩ := xps_at HO.out HLZ.out (l := gl p.fl k) (fun q hq => hq) HPK.out hltm
 have hm1 : (m : Int) < (nk : Int) := by omega
 have HXU : Hid ((xd u).1 = ⟨u.k, u.b, u.c⟩) := xd_of HO.out HFI.out hum
 have HJU := Lib.hid hju
 have HUM := Lib.hid hum
 have HSO := Lib.hid hso
 have HSI := Lib.hid hsi
 rw [HEF.out] at hsiF hsoF
 have r3i := HCELI.out wz HLZ.out
 obtain ⟨hl5, r50, r51, r52, r53, r54⟩ := HCELQ.out wz HLZ.out
 obtain ⟨qk, hqk⟩ : ∃ v, q.k = v := ⟨_, rfl⟩
 obtain ⟨qb, hqb⟩ : ∃ v, q.b = v := ⟨_, rfl⟩
 obtain ⟨qc, hqc⟩ : ∃ v, q.c = v := ⟨_, rfl⟩
 obtain ⟨uk, huk⟩ : ∃ v, u.k = v := ⟨_, rfl⟩
 obtain ⟨ub, hub⟩ : ∃ v, u.b = v := ⟨_, rfl⟩
 obtain ⟨uc, huc⟩ : ∃ v, u.c = v := ⟨_, rfl⟩
 have HXQE : Hid ((xd q).1 = ⟨qk, qb, qc⟩) := by rw [← hqk, ← hqb, ← hqc]; exact HXQ
 have HXUE : Hid ((xd u).1 = ⟨uk, ub, uc⟩) := by rw [← huk, ← hub, ← huc]; exact HXU
 rw [hqk] at r52
 rw [hqb] at r53
 rw [hqc] at r54
 rw [huk] at r62
 rw [hub] at r63
 rw [huc] at r64
 have HSN : Hid (∀ Y, Clo p Y → ∀ a, le (Y rb a so) (comp (comp (comp (Y ca a qi) (xd q)) (Y ra qo si)) (xd u))) := fun Y hY a => by
   have h7 := hY.ret i hie HRCI.out.1 q HQM.out k hk HKD.out u HUM.out HRCI.out.2.1 HRCI.out.2.2 a
   rw [HRA.out, HRB.out, HCA.out, HQI.out, HQO.out, HSI.out, HSO.out] at h7
   simp only [Int.toNat_natCast] at h7
   exact h7
 have HAC : Hid (∀ w9, Kept [] wz w9 → Calls Tryz.prog 164 #[.agg #[.slice K.A1 K.n1 K.c1, .slice K.A2 K.n2 K.c2, .int .i64 mn, .int .i64 (f : Nat), .slice (some ⟨b3, o3, none⟩) K.n3 K.c3, .slice K.A4 K.n4 K.c4, .slice (some ⟨go, 0, none⟩) N cN], .int .i64 ca, .agg #[.int .i64 ra, .int .i64 rb, .int .i64 rk, .int .i64 rcc], .agg #[.int .i64 qi, .int .i64 qo, .int .i64 qk, .int .i64 qb, .int .i64 qc], .agg #[.int .i64 si, .int .i64 so, .int .i64 uk, .int .i64 ub, .int .i64 uc]] w9 (GetR p N f go rw rc wz T3 (∀ a, a < f → le (T3 rb a so) (comp (comp (comp (T3 ca a qi) (xd q)) (T3 ra qo si)) (xd u))))) := fun w9 hk9 => by
   rw [← HE3.out]
   exact (racross_any w9 ca ra rb qi qo si so rk rcc qk qb qc uk ub uc q u HR.out (TZ.out.keep hk9) hcaN hraN hrbN hqiF hqoF hsiF hsoF HXQE.out HXUE.out HSN.out).mono (fun e w' h9 => h9.from hk9)
 clear hju hum hso hsi hqk hqb hqc huk hub huc HXQ HXU
 go_upto_region 15 with fail
 refine wp_region_E 22 (fun w' => SX0 wz w') (by kernel_rfl) (by (exact kp0)) (fun hHeld => ?_)
 refine WE_tk 0 ?_
 refine WE_tk 1 ?_
 refine WE_tk 2 ?_
 refine WE_tk 3 ?_
 refine WE_tk 4 ?_
 refine WE_tk 5 ?_
 refine WE_tk 6 ?_
 refine WE_tk 7 ?_
 refine WE_tk 8 ?_
 refine WE_tk 9 ?_
 refine WE_tk 10 ?_
 refine WE_tk 11 ?_
 refine WE_tk 12 ?_
 refine WE_tk 13 ?_
 refine WE_tk 14 ?_
 refine WE_tk 15 ?_
 refine WE_tk 16 ?_
 refine WE_tk 17 ?_
 refine WE_tk 18 ?_
 refine WE_tk 19 ?_
 refine WE_tk 20 ?_
 refine WE_tk 21 ?_
 refine WE_last rfl (by kernel_rfl) (fun K hK => ?_)
 go_simp
 (go_at_call 164; refine (HAC.out _ (by (exact kpt0))).mono ?_; rintro e w7 ⟨bb, T7, rfl, hT7, hF7, hR7, hQ7⟩)
 (try go_wp2_with fail)
 refine hK.out _ _ ?_
 clear hK K
 have F7 := Lib.hid (FZ.out.trans hF7)
 have F7c := Lib.hid (FZc.out.trans hF7)
 have HT7 := Lib.hid hT7
 have HR7 := Lib.hid (RQ3.out.trans hR7)
 have HNX : Hid ((d3 || bb) = false → ∀ m', m' < m + 1 → ∀ u', (gl p.fl k)[m']? = some u' → RQ p T k i f q u') := fun hb m' hm' u' hu' => by
   rw [Bool.or_eq_false_iff] at hb
   rcases Nat.lt_or_ge m' m with h1 | h1
   · exact DZ.out hb.1 m' h1 u' hu'
   · obtain rfl : m' = m := by omega
     rw [HJU.out] at hu'
     injection hu' with hu'
     subst hu'
     have h2 := hQ7 hb.2
     rw [RQ3.out.same hb.1] at h2
     intro a ha
     have h3 := h2 a ha
     rw [HRA.out, HRB.out, HCA.out, HQI.out, HQO.out, HSI.out, HSO.out]
     simp only [Int.toNat_natCast]
     exact h3
 clear hT7 hF7 hR7 hQ7 C0z F0z Cg0z Fg0z Cg1z Fg1z Cgcz Fgcz r3 r3i r50 r51 r52 r53 r54 r60 r61 r62 r63 r64
 cases bb with
 | true =>
   go_wp2_with fail
   exact ⟨⟨m + 1, true, T7, by rw [HLENK.out]; omega, rfl, by go_num, HT7, F7, F7c, by have h9 := HR7.out; rw [Bool.or_true] at h9; exact h9, (fun h => by cases h), (fun h => by cases h)⟩, by simp [intOf]; rw [HLENK.out]; omega⟩
 | false =>
   have HR8 : Hid (Rs p T T7 d3) := by have h9 := HR7.out; rw [Bool.or_false] at h9; exact h9
   have HNX2 : Hid (d3 = false → ∀ m', m' < m + 1 → ∀ u', (gl p.fl k)[m']? = some u' → RQ p T k i f q u') := by have h9 := HNX.out; rw [Bool.or_false] at h9; exact h9
   go_wp2_with fail
   exact ⟨⟨m + 1, d3, T7, by rw [HLENK.out]; omega, rfl, by go_num, HT7, F7, F7c, HR8, HB2, HNX2⟩, by simp [intOf]; rw [HLENK.out]; omega⟩
end Go.Proofs.YtincpmdldpakkaaGreatDoor
namespace Go.Df
open Go.RowKit
namespace Iv
open Sp
def DnF (p : Vb) (r a f : Nat) (x : D) (q : Xp) (t : St) : Prop := ∃ y, Sn t (ge p.es r).a.toNat q.o.toNat f y ∧ ∀ u ∈ gl p.fl r, u.i = (f : Int) → le (t.T (ge p.es r).b.toNat a u.o.toNat) (comp (comp (comp x (xd q)) y) (xd u))
def DnR (p : Vb) (k r a : Nat) (x : D) (q : Xp) (t : St) : Prop := (gn p.ns (ge p.es k).b.toNat).f = (gn p.ns (ge p.es r).a.toNat).f → ∀ u ∈ gl p.fl r, ∃ y, Sn t (ge p.es r).a.toNat q.o.toNat u.i.toNat y ∧ le (t.T (ge p.es r).b.toNat a u.o.toNat) (comp (comp (comp x (xd q)) y) (xd u))
def DnQ (p : Vb) (k a : Nat) (x : D) (q : Xp) (t : St) : Prop := xd q ≠ top → le (t.T (ge p.es k).b.toNat q.o.toNat q.o.toNat) shift ∧ ∀ r ∈ If.retL (pf p) (ge p.es k).a.toNat, DnR p k r a x q t
section
variable {p : Vb} {s t : St} {k r a f : Nat} {x : D} {q : Xp}
theorem DnF.mono (h : DnF p r a f x q s) (g : Gw s t) : DnF p r a f x q t := by
 obtain ⟨y, h1, h2⟩ := h
 exact ⟨y, h1.mono g, fun u hu hi => le_trans (g.le _ _ _) (h2 u hu hi)⟩
theorem DnR.mono (h : DnR p k r a x q s) (g : Gw s t) : DnR p k r a x q t := fun hf u hu => by
 obtain ⟨y, h1, h2⟩ := h hf u hu
 exact ⟨y, h1.mono g, le_trans (g.le _ _ _) h2⟩
theorem DnQ.mono (h : DnQ p k a x q s) (g : Gw s t) : DnQ p k a x q t := fun hq => ⟨le_trans (g.le _ _ _) (h hq).1, fun r hr => ((h hq).2 r hr).mono g⟩
theorem DnR.of (ho : VOk p) (hw : Wf p s) (g : Gw s t) (h : ∀ f ∈ s.ls 1 (ge p.es r).a.toNat q.o.toNat, DnF p r a f x q t) : DnR p k r a x q t := fun _ u hu => by
 have hi : u.i = (u.i.toNat : Int) := by have := (ho.pair hu).1; omega
 by_cases hm : u.i.toNat ∈ s.ls 1 (ge p.es r).a.toNat q.o.toNat
 · obtain ⟨y, h1, h2⟩ := h _ hm
   exact ⟨y, h1, h2 u hu hi⟩
 · have h0 : s.T (ge p.es r).a.toNat q.o.toNat u.i.toNat = top := Classical.byContradiction fun h9 => hm ((hw.l1 _ _ _).2 h9)
   refine ⟨top, ?_, ?_⟩
   · have := (Sn.self s (ge p.es r).a.toNat q.o.toNat u.i.toNat).mono g
     rwa [h0] at this
   · rw [comp_top, top_comp]; exact le_top _
theorem enter_shift {n d : Nat} (hk : k < p.es.length) (h2 : (ge p.es k).k = 2) (hn : (ge p.es k).a = (n : Int)) (hq : q ∈ gl p.fl k) (hqi : q.i = (d : Int)) (hxq : xd q ≠ top) (hxt : x ≠ top) (hx : ∀ Y, Clo p Y → le (Y n a d) x) : ∀ Y, Clo p Y → le (Y (ge p.es k).b.toNat q.o.toNat q.o.toNat) shift := fun Y hY => by
 refine hY.call k hk h2 q hq a (fun h0 => hxt ?_) hxq
 have h1 := hx Y hY
 rw [hn, hqi, Int.toNat_natCast, Int.toNat_natCast] at h0
 rw [h0] at h1
 exact top_of_le h1
theorem enter_snd {n d : Nat} (hs : Snd p s.T) (hk : k < p.es.length) (h2 : (ge p.es k).k = 2) (hn : (ge p.es k).a = (n : Int)) (hq : q ∈ gl p.fl k) (hqi : q.i = (d : Int)) (hx : ∀ Y, Clo p Y → le (Y n a d) x) (hr : r < p.es.length) (h3 : (ge p.es r).k = 3 ∨ (ge p.es r).k = 4) (hc : (ge p.es r).c = (n : Int)) (hf : (gn p.ns (ge p.es k).b.toNat).f = (gn p.ns (ge p.es r).a.toNat).f) :
   ∀ Y, Clo p Y → ∀ u ∈ gl p.fl r, u.i = (f : Int) → le (Y (ge p.es r).b.toNat a u.o.toNat) (comp (comp (comp x (xd q)) (s.T (ge p.es r).a.toNat q.o.toNat f)) (xd u)) := fun Y hY u hu hui => by
 have h1 := hY.ret k hk h2 q hq r hr h3 u hu (hn.trans hc.symm) hf a
 rw [hn, hqi, hui, Int.toNat_natCast, Int.toNat_natCast, Int.toNat_natCast] at h1
 exact le_trans h1 (comp_mono (comp_mono (comp_mono (hx Y hY) (le_refl _)) (hs Y hY _ _ _)) (le_refl _))
def LvA (p : Vb) (n k d a' : Nat) (x : D) (q : Xp) (t : St) : Prop := ∃ y, Sn t (ge p.es k).a.toNat a' q.i.toNat y ∧ ∀ r ∈ If.retL (pf p) (ge p.es k).a.toNat, (ge p.es r).a = (n : Int) → ∀ u ∈ gl p.fl r, u.i = (d : Int) → le (t.T (ge p.es r).b.toNat a' u.o.toNat) (comp (comp (comp y (xd q)) x) (xd u))
def LvQ (p : Vb) (n k d : Nat) (x : D) (q : Xp) (t : St) : Prop := ∀ a', LvA p n k d a' x q t
def LvK (p : Vb) (n b d k : Nat) (x : D) (t : St) : Prop := ∀ q ∈ gl p.fl k, q.o = (b : Int) → LvQ p n k d x q t
theorem LvA.mono {n d a' : Nat} (h : LvA p n k d a' x q s) (g : Gw s t) : LvA p n k d a' x q t := by
 obtain ⟨y, h1, h2⟩ := h
 exact ⟨y, h1.mono g, fun r hr hn u hu hi => le_trans (g.le _ _ _) (h2 r hr hn u hu hi)⟩
theorem LvQ.mono {n d : Nat} (h : LvQ p n k d x q s) (g : Gw s t) : LvQ p n k d x q t := fun a' => (h a').mono g
theorem LvK.mono {n b d : Nat} (h : LvK p n b d k x s) (g : Gw s t) : LvK p n b d k x t := fun q hq hqo => (h q hq hqo).mono g
theorem LvQ.of {n d : Nat} (hw : Wf p s) (g : Gw s t) (h : ∀ a' ∈ s.ls 2 (ge p.es k).a.toNat q.i.toNat, LvA p n k d a' x q t) : LvQ p n k d x q t := fun a' => by
 by_cases hm : a' ∈ s.ls 2 (ge p.es k).a.toNat q.i.toNat
 · exact h a' hm
 · have h0 : s.T (ge p.es k).a.toNat a' q.i.toNat = top := Classical.byContradiction fun h9 => hm ((hw.l2 _ _ _).2 h9)
   refine ⟨top, ?_, fun r hr hn u hu hi => ?_⟩
   · have := (Sn.self s (ge p.es k).a.toNat a' q.i.toNat).mono g
     rwa [h0] at this
   · rw [top_comp, top_comp, top_comp]; exact le_top _
theorem leave_snd {n b d a' : Nat} (hs : Snd p s.T) (hk : k < p.es.length) (h2 : (ge p.es k).k = 2) (hq : q ∈ gl p.fl k) (hqo : q.o = (b : Int)) (hx : ∀ Y, Clo p Y → le (Y n b d) x) (hr : r < p.es.length) (h3 : (ge p.es r).k = 3 ∨ (ge p.es r).k = 4) (hc : (ge p.es k).a = (ge p.es r).c) (hn : (ge p.es r).a = (n : Int)) (hf : (gn p.ns (ge p.es k).b.toNat).f = (gn p.ns n).f) :
   ∀ Y, Clo p Y → ∀ u ∈ gl p.fl r, u.i = (d : Int) → le (Y (ge p.es r).b.toNat a' u.o.toNat) (comp (comp (comp (s.T (ge p.es k).a.toNat a' q.i.toNat) (xd q)) x) (xd u)) := fun Y hY u hu hui => by
 have h1 := hY.ret k hk h2 q hq r hr h3 u hu hc (by rw [hn, Int.toNat_natCast]; exact hf) a'
 rw [hn, hqo, hui, Int.toNat_natCast, Int.toNat_natCast, Int.toNat_natCast] at h1
 exact le_trans h1 (comp_mono (comp_mono (comp_mono (hs Y hY _ _ _) (le_refl _)) (hx Y hY)) (le_refl _))
end
end Iv
end Go.Df
namespace Go.Df
open Go.RowKit
namespace Iv
open Sp
structure StE (p : Vb) (k a d : Nat) (x : D) (t : St) : Prop where
 flow : (ge p.es k).k = 1 ∨ (ge p.es k).k = 5 → ∀ q ∈ gl p.fl k, q.i = (d : Int) → le (t.T (ge p.es k).b.toNat a q.o.toNat) (comp x (xd q))
 call : (ge p.es k).k = 2 → ∀ q ∈ gl p.fl k, q.i = (d : Int) → DnQ p k a x q t
theorem StE.mono {p : Vb} {k a d : Nat} {x : D} {s t : St} (h : StE p k a d x s) (g : Gw s t) : StE p k a d x t := ⟨fun hk q hq hi => le_trans (g.le _ _ _) (h.flow hk q hq hi), fun hk q hq hi => (h.call hk q hq hi).mono g⟩
theorem mem_seedV {p : Vb} {n : Nat} {u : Vs} : u ∈ seedV p n ↔ u ∈ p.sd ∧ u.n = (n : Int) := by simp [seedV]
theorem did_of {p : Vb} (ho : VOk p) {n a d : Nat} {x : D} {t : St} (hn : n < p.ns.length) (h1 : a = 0 → d = 0 → ∀ u ∈ seedV p n, le (t.T n 0 u.f.toNat) (sx u)) (h2 : ∀ k ∈ If.outL (pf p) n, StE p k a d x t)
   (h3 : (gn p.ns n).k = 3 ∨ (gn p.ns n).k = 4 → ∀ k ∈ If.callL (pf p) (If.stOf p.ns n), LvK p n a d k x t) : Did p n a d x t := by
 refine ⟨fun e1 e2 u hu hun => h1 e1 e2 u (mem_seedV.2 ⟨hu, hun⟩), fun k hk hk2 hka q hq hi => (h2 k (If.outL_mem.2 ⟨hk, hka⟩)).flow hk2 q hq hi, fun k hk hk2 hka q hq hi hx => ((h2 k (If.outL_mem.2 ⟨hk, hka⟩)).call hk2 q hq hi hx).1, fun c hc hc2 hca q hq hi hx r hr hr3 hcr hf u hu => ?_, fun r hr hr3 hra c hc hc2 hcr hf q hq hqo a' => ?_⟩
 · refine ((h2 c (If.outL_mem.2 ⟨hc, hca⟩)).call hc2 q hq hi hx).2 r ?_ hf u hu
   have h8 := (ho.edge hc).1
   exact If.retL_mem.2 ⟨hr, hr3, by show (ge p.es r).c = _; rw [← hcr]; omega⟩
 · have hkn := ho.pf.ret (k := r) hr hr3
   have h6 : (gn p.ns n).k = 3 ∨ (gn p.ns n).k = 4 := by
     have e : (Iv.pf p).es = p.es := rfl
     have e' : (Iv.pf p).ns = p.ns := rfl
     rw [e, e', hra, Int.toNat_natCast] at hkn
     exact hkn
   have hcb : (gn p.ns (ge p.es c).b.toNat).k = 1 := (ho.pf.call (k := c) hc hc2).1
   have hnd : If.NdOk p.ns := ho.pf.nd
   have hbl : (ge p.es c).b.toNat < p.ns.length := by have h7 := ho.edge hc; omega
   have h9 := ho.edge hc
   have hst : If.stOf p.ns n = (ge p.es c).b.toNat := (hnd.start_iff hn hbl hcb).2 (by rw [hf, hra, Int.toNat_natCast])
   obtain ⟨y, hy1, hy2⟩ := h3 h6 c (If.callL_mem.2 ⟨hc, hc2, by rw [hst]; show (ge p.es c).b = _; omega⟩) q hq hqo a'
   exact ⟨y, hy1, fun u hu hui => hy2 r (If.retL_mem.2 ⟨hr, hr3, by show (ge p.es r).c = _; rw [← hcr]; omega⟩) hra u hu hui⟩
theorem sx_top {u : Vs} (h1 : u.k ≠ 1) (h2 : u.k ≠ 2) : sx u = top := by unfold sx; rw [if_neg h1, if_neg h2]
theorem sx_const {u : Vs} (h1 : u.k = 1) (h : wrap64 u.v = u.v) : (sx u).1 = ⟨1, 0, u.v⟩ := by unfold sx; rw [if_pos h1, dif_pos h]; rfl
theorem sx_bot {u : Vs} (h1 : u.k = 2) : (sx u).1 = ⟨4, 0, 0⟩ := by unfold sx; rw [if_neg (by omega), if_pos h1]; rfl
theorem seed_snd {p : Vb} {u : Vs} {n : Nat} {x : D} (hu : u ∈ p.sd) (hn : u.n = (n : Int)) (hx : x ≠ top) (hs : ∀ Y, Clo p Y → le (Y n 0 0) x) : ∀ Y, Clo p Y → le (Y n 0 u.f.toNat) (sx u) := fun Y hY => by
 have h1 := hY.seed u hu
 rw [hn, Int.toNat_natCast] at h1
 exact h1 (fun h0 => hx (top_of_le (h0 ▸ hs Y hY)))
end Iv
end Go.Df
