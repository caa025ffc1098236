/- Texts: Cw Cx. -/
import Derived.Test.YtincpmdldpakkaaDoorCs27
import Derived.Test.YtincpmdldpakkaaDoorCs22
namespace Go.Df.Iv
open Go Go.RowKit Go.Df.Sp
def RC (p : Vb) (k c : Nat) : Prop := (ge p.es c).k = 2 ∧ (ge p.es c).a = (ge p.es k).c ∧ (gn p.ns (ge p.es c).b.toNat).f = (gn p.ns (ge p.es k).a.toNat).f
def RQ (p : Vb) (T : Nat → Nat → Nat → D) (k c f : Nat) (q u : Xp) : Prop := ∀ a, a < f → le (T (ge p.es k).b.toNat a u.o.toNat) (comp (comp (comp (T (ge p.es c).a.toNat a q.i.toNat) (xd q)) (T (ge p.es k).a.toNat q.o.toNat u.i.toNat)) (xd u))
end Go.Df.Iv
namespace Go.Proofs.YtincpmdldpakkaaDoor
open Go.RowKit Go.Df Go.Df.Iv Go.Df.Sp
theorem GetR.from {p : Vb} {N f go : Nat} {rw rc : Nat → Nat} {v w : World} {T : Nat → Nat → Nat → D} {Q : Prop} {e : Ending} {w' : World} (h : GetR p N f go rw rc w T Q e w') (hk : Kept [] v w) : GetR p N f go rw rc v T Q e w' := by
  obtain ⟨b, T', h1, h2, h3, h4⟩ := h
  exact ⟨b, T', h1, h2, (Fx.same hk).trans h3, h4⟩
attribute [local go_sem ↓] Go.wp_at_zero Go.wp_at_succ
set_option maxRecDepth 100000 in
set_option maxHeartbeats 40000000 in
theorem rreturned_any {p : Vb} {K : Kn} {w0 : World} {N f go cN : Nat} {mn : Int} {rw rc : Nat → Nat} {T : Nat → Nat → Nat → D} (w : World) (k : Nat) (hR : Rin p K w0 N f go rw) (hlow : Below w0.heap.size w0 w) (hT : Tw p N f w go rw rc T) (hk : k < p.es.length) (hkind : (ge p.es k).k = 3 ∨ (ge p.es k).k = 4) :
    Calls Tryd.prog 73 #[.agg #[.slice K.A1 K.n1 K.c1, .slice K.A2 K.n2 K.c2, .int .i64 mn, .int .i64 (f : Nat), .slice K.A3 K.n3 K.c3, .slice K.A4 K.n4 K.c4, .slice (some ⟨go, 0, none⟩) N cN], .int .i64 k] w
      (GetR p N f go rw rc w T (∀ c, c < p.es.length → RC p k c → ∀ q ∈ gl p.fl c, ∀ u ∈ gl p.fl k, RQ p T k c f q u)) := by
  have HR := Lib.hid hR
  have HO := Lib.hid hR.ok
  have HI := Lib.hid hR.inp
  have HFI := Lib.hid hR.fit
  have HT := Lib.hid hT
  have HKD := Lib.hid hkind
  have HLOW := Lib.hid hlow
  have HEF : Hid (p.F.toNat = f) := by show _ = _; rw [hR.eF, Int.toNat_natCast]
  have HEN := Lib.hid hR.eN
  have HEK := Lib.hid hR.eK
  have HES := Lib.hid hR.inp.ed.1
  have hE8 : K.n2 ≤ 32768 := by have := (If.sup_parts hR.ok.sup).2.1; have := hR.inp.ed.1; omega
  obtain ⟨b3, o3, _, _, _, e3, hl30, -⟩ := hR.inp.flow hR.ok (Below.refl _ _) hk
  have HE3 := Lib.hid e3
  rw [e3]
  clear hR hlow hT hkind e3
  go_enter Tryd.func73, Tryd.ntmps73
  go_upto_region 1 with fail
  refine wp_named (fun W => ∃ b0, w.heap.size = b0 ∧ Blk W b0 [.slice K.A1 K.n1 K.c1, .slice K.A2 K.n2 K.c2, .int .i64 mn, .int .i64 (f : Nat), .slice (some ⟨b3, o3, none⟩) K.n3 K.c3, .slice K.A4 K.n4 K.c4, .slice (some ⟨go, 0, none⟩) N cN] ∧ Below w.heap.size w W) ⟨_, rfl, ?_, ?_⟩ ?_
  · exact Blk.new _ _ _ _ (by first | rfl | simp)
  · go_grown
  rintro W ⟨b0, e0, B0, hB⟩
  rw [e0]
  have G0 : w.heap.size ≤ b0 := by omega
  clear e0
  have ⟨L0, C0, F0⟩ := B0
  have hkW : Kept [] w W := (Kept.refl _ _).call hB
  have TW := Lib.hid (HT.out.keep hkW)
  have HLW := Lib.hid (HLOW.out.trans (hkW.toBelow.mono HLOW.out.size))
  have SB : Hid (SafeB (RowO N rw) W b0) := ⟨L0, fun ⟨n, hn, e⟩ => by have h1 := HT.out.lt n hn; omega⟩
  have HB0 := Lib.hid B0
  obtain ⟨b2, o2, ra, rb, e2, hl20, hl2, hk2, hra, hrb, hra2, hrb2, r2a, r2b, r2c, r2d⟩ := HI.out.edge HO.out HLW.out hk
  have HRA := Lib.hid hra
  have HRB := Lib.hid hrb
  obtain ⟨rk, hrk⟩ : ∃ x, (ge p.es k).k = x := ⟨_, rfl⟩
  obtain ⟨rcc, hrc⟩ : ∃ x, (ge p.es k).c = x := ⟨_, rfl⟩
  rw [hrk] at r2c
  rw [hrc] at r2d
  have HRC := Lib.hid hrc
  have hraN : ra < N := by rw [HEN.out]; exact hra2
  have hrbN : rb < N := by rw [HEN.out]; exact hrb2
  obtain ⟨b1, o1, e1, hl10, hc10⟩ := HI.out.nd.2 (by rw [HEK.out]; omega)
  have HCN := Lib.hid hc10
  clear hra hrb hrk hrc hc10
  have HE1 := Lib.hid e1
  have HE2 := Lib.hid e2
  clear e1 e2
  go_upto_region 3 with fail
  refine wp_named (fun V => ∃ g0, W.heap.size = g0 ∧ Blk V g0 [.slice K.A1 K.n1 K.c1, .slice K.A2 K.n2 K.c2, .int .i64 mn] ∧ Kept [] W V) ⟨_, rfl, Blk.new _ _ _ _ rfl, (Kept.refl _ _).alloc _⟩ ?_
  rintro Vm ⟨g0, eg0, Bgm, hkVm⟩
  rw [eg0]
  have ⟨Lgm, Cgm, Fgm⟩ := Bgm
  have ⟨L0m, C0m, F0m⟩ := hkVm.blk (by simp) B0
  have e2 := HE2.out
  have hl2m : b2 < Vm.heap.size := Nat.lt_of_lt_of_le hl2 hkVm.size
  replace r2a := (hkVm.cell b2 _ hl2 (by simp)).trans r2a
  replace r2b := (hkVm.cell b2 _ hl2 (by simp)).trans r2b
  replace r2c := (hkVm.cell b2 _ hl2 (by simp)).trans r2c
  replace r2d := (hkVm.cell b2 _ hl2 (by simp)).trans r2d
  clear C0 F0
  go_upto_region 4 with fail
  refine wp_named (fun V => ∃ g1, Vm.heap.size = g1 ∧ Blk V g1 [.int .i64 ra, .int .i64 rb, .int .i64 rk, .int .i64 rcc] ∧ Kept [] Vm V) ⟨_, rfl, Blk.new _ _ _ _ rfl, (Kept.refl _ _).alloc _⟩ ?_
  rintro V0 ⟨g1, eg1, Bg1, hkVm0⟩
  rw [eg1]
  have hkV0 : Kept [] W V0 := keptTrans hkVm hkVm0
  have Bg0 := hkVm0.blk (by simp) Bgm
  have hg1W : W.heap.size ≤ g1 := by have := hkVm.size; omega
  have hkw0 : Kept [] w V0 := keptTrans hkW hkV0
  have TV := Lib.hid (HT.out.keep hkw0)
  have HLV := Lib.hid (HLW.out.trans (hkV0.toBelow.mono HLW.out.size))
  have SB0 : Hid (SafeB (RowO N rw) V0 b0) := SB.out.fx (Fx.same (O := RowO N rw) hkV0)
  have HB00 : Hid (Blk V0 b0 [.slice K.A1 K.n1 K.c1, .slice K.A2 K.n2 K.c2, .int .i64 mn, .int .i64 (f : Nat), .slice (some ⟨b3, o3, none⟩) K.n3 K.c3, .slice K.A4 K.n4 K.c4, .slice (some ⟨go, 0, none⟩) N cN]) := hkV0.blk (by simp) HB0.out
  have SG0 : Hid (SafeB (RowO N rw) V0 g0) := ⟨Bg0.1, fun ⟨n, hn, e⟩ => by have h1 := TW.out.lt n hn; omega⟩
  have SG1 : Hid (SafeB (RowO N rw) V0 g1) := ⟨Bg1.1, fun ⟨n, hn, e⟩ => by have h1 := TW.out.lt n hn; omega⟩
  have HG0 := Lib.hid Bg0
  have HG1 := Lib.hid Bg1
  have hbs : Hid (∀ x, RowO N rw x → w0.heap.size ≤ x) := fun x ⟨n, hn, e⟩ => by rw [e]; exact HR.out.base n hn
  have Fw : Hid (Fx (RowO N rw) (RowO N rw) w V0) := Fx.same hkw0
  clear r2a r2b r2c r2d hl2 hl2m eg0 eg1 Bg0 Bg1 Bgm Cgm Fgm C0m F0m e2
  go_wp2_with fail
  go_loopw [5, 8] (fun s6 s8 wr => ∃ (i : Nat) (d1 : Bool) (T1 : Nat → Nat → Nat → D), i ≤ K.n2 ∧ s6 = .bool d1 ∧ s8 = .int .i64 i ∧ Hid (Tw p N f wr go rw rc T1) ∧ Hid (Fx (RowO N rw) (RowO N rw) V0 wr) ∧ Hid (Rs p T T1 d1) ∧ Hid (d1 = false → ∀ c, c < i → RC p k c → ∀ q ∈ gl p.fl c, ∀ u ∈ gl p.fl k, RQ p T k c f q u)) (fun _ s8 _ => K.n2 - (intOf s8).toNat)
  case atStart => exact ⟨0, false, T, Nat.zero_le _, rfl, rfl, TV, Lib.hid (Fx.refl _ _), Lib.hid (Rs.refl p T), Lib.hid (fun _ c hc => absurd hc (Nat.not_lt_zero _))⟩
  case round =>
  rename World => wr
  clear TV
  obtain ⟨i, d1, T1, hi, rfl, rfl, TR, FR, RS, DN⟩ := hrel
  have ⟨L0r, C0r, F0r⟩ := SB0.out.blk FR.out HB00.out
  have ⟨Lg0r, Cg0r, Fg0r⟩ := SG0.out.blk FR.out HG0.out
  have ⟨Lg1r, Cg1r, Fg1r⟩ := SG1.out.blk FR.out HG1.out
  by_cases hlt : i < K.n2
  case neg =>
    obtain rfl : i = K.n2 := by omega
    have HRES : Hid (d1 = false → ∀ c, c < p.es.length → RC p k c → ∀ q ∈ gl p.fl c, ∀ u ∈ gl p.fl k, RQ p T k c f q u) := fun hb c hc => DN.out hb c (by rw [← HES.out]; exact hc)
    go_wp2_with fail
    go_ret
    exact ⟨d1, T1, rfl, TR.out, Fw.out.trans FR.out, RS.out, HRES.out⟩
  have hi1 : (i : Int) < (K.n2 : Int) := by omega
  have hie : i < p.es.length := by rw [HES.out]; exact hlt
  have HLR := Lib.hid (FR.out.below HLV.out hbs.out)
  obtain ⟨b2', o2', ca, cb, e2', hl20', hl2, hk2', hca, hcb, hca2, hcb2, r2a, r2b, r2c, r2d⟩ := HI.out.edge HO.out HLR.out hie
  obtain ⟨ck, hck⟩ : ∃ x, (ge p.es i).k = x := ⟨_, rfl⟩
  obtain ⟨cc, hcc⟩ : ∃ x, (ge p.es i).c = x := ⟨_, rfl⟩
  rw [hck] at r2c
  rw [hcc] at r2d
  have hcaN : ca < N := by rw [HEN.out]; exact hca2
  have hcbN : cb < N := by rw [HEN.out]; exact hcb2
  have HCA := Lib.hid hca
  have HCB := Lib.hid hcb
  have HCK := Lib.hid hck
  clear hca hcb hck hcc
  go_upto_region 8 with fail
  refine wp_named (fun U => ∃ g, wr.heap.size = g ∧ Blk U g [.int .i64 ca, .int .i64 cb, .int .i64 ck, .int .i64 cc] ∧ Kept [] wr U) ⟨_, rfl, Blk.new _ _ _ _ rfl, (Kept.refl _ _).alloc _⟩ ?_
  rintro U ⟨gc, ec, Bc, hkU⟩
  rw [ec]
  have TU := Lib.hid (TR.out.keep hkU)
  have FU := Lib.hid (FR.out.trans (Fx.same (O := RowO N rw) hkU))
  have SGC : Hid (SafeB (RowO N rw) U gc) := ⟨Bc.1, fun ⟨n, hn, e⟩ => by have h1 := TR.out.lt n hn; omega⟩
  have HGC := Lib.hid Bc
  have HLU := Lib.hid (FU.out.below HLV.out hbs.out)
  have ⟨LcU, CcU, FcU⟩ := Bc
  clear C0r F0r Cg0r Fg0r Cg1r Fg1r r2a r2b r2c r2d hl2 e2' ec Bc
  have ⟨L0U, C0U, F0U⟩ := SB0.out.blk FU.out HB00.out
  have ⟨Lg0U, Cg0U, Fg0U⟩ := SG0.out.blk FU.out HG0.out
  have ⟨Lg1U, Cg1U, Fg1U⟩ := SG1.out.blk FU.out HG1.out
  have e1 := HE1.out
  have hl1U : b1 < U.heap.size := Nat.lt_of_lt_of_le hl10 HLU.out.size
  obtain ⟨nfc, hnfc⟩ : ∃ x, (gn p.ns cb).f = x := ⟨_, rfl⟩
  obtain ⟨nfr, hnfr⟩ : ∃ x, (gn p.ns ra).f = x := ⟨_, rfl⟩
  have f1 := (HLU.out.cell (p := ⟨b1, _, none⟩) hl10).trans (HCN.out cb (by rw [HEK.out]; exact hcbN)).1
  have f2 := (HLU.out.cell (p := ⟨b1, _, none⟩) hl10).trans (HCN.out ra (by rw [HEK.out]; exact hraN)).1
  rw [hnfc] at f1
  rw [hnfr] at f2
  have hcb9 : (cb : Int) < (K.n1 : Int) := by have := HEK.out; omega
  have hra9 : (ra : Int) < (K.n1 : Int) := by have := HEK.out; omega
  have HRCC : Hid (RC p k i ↔ ck = 2 ∧ (ca : Int) = rcc ∧ nfc = nfr) := by
    show _ ↔ _
    unfold RC
    rw [HCA.out, HCB.out, HRA.out, HCK.out, HRC.out, Int.toNat_natCast, Int.toNat_natCast, ← hnfc, ← hnfr]
  have HSK : Hid (¬ RC p k i → d1 = false → ∀ c, c < i + 1 → RC p k c → ∀ q ∈ gl p.fl c, ∀ u ∈ gl p.fl k, RQ p T k c f q u) := fun hn hd c hc hrc => by
    rcases Nat.lt_or_ge c i with h1 | h1
    · exact DN.out hd c h1 hrc
    · obtain rfl : c = i := by omega
      exact absurd hrc hn
  clear hnfc hnfr
  by_cases k1 : ck = 2
  case neg =>
    have z1 : (ck != 2) = true := by simpa using k1
    have HE := Lib.hid (HSK.out (fun h => k1 (HRCC.out.1 h).1))
    clear k1
    go_quiet (fail)
    go_wp2_with fail
    exact ⟨⟨i + 1, d1, T1, by omega, rfl, by go_num, Lib.hid (TU.out.keep ((Kept.refl [] U).drewN _)), Lib.hid (FU.out.trans (Fx.same (O := RowO N rw) ((Kept.refl [] U).drewN _))), RS, HE⟩, by simp [intOf]; omega⟩
  by_cases k2 : (ca : Int) = rcc
  case neg =>
    have z0 : (ck != 2) = false := by simpa using k1
    have z1 : ((ca : Int) != rcc) = true := by simpa using k2
    have HE := Lib.hid (HSK.out (fun h => k2 (HRCC.out.1 h).2.1))
    clear k1 k2
    go_quiet (fail)
    go_wp2_with fail
    exact ⟨⟨i + 1, d1, T1, by omega, rfl, by go_num, Lib.hid (TU.out.keep ((Kept.refl [] U).drewN _)), Lib.hid (FU.out.trans (Fx.same (O := RowO N rw) ((Kept.refl [] U).drewN _))), RS, HE⟩, by simp [intOf]; omega⟩
  by_cases k3 : nfc = nfr
  case neg =>
    have z0 : (ck != 2) = false := by simpa using k1
    have z2 : ((ca : Int) != rcc) = false := by simpa using k2
    have z1 : (nfc != nfr) = true := by simpa using k3
    have HE := Lib.hid (HSK.out (fun h => k3 (HRCC.out.1 h).2.2))
    clear k1 k2 k3
    go_quiet (fail)
    go_wp2_with fail
    exact ⟨⟨i + 1, d1, T1, by omega, rfl, by go_num, Lib.hid (TU.out.keep ((Kept.refl [] U).drewN _)), Lib.hid (FU.out.trans (Fx.same (O := RowO N rw) ((Kept.refl [] U).drewN _))), RS, HE⟩, by simp [intOf]; omega⟩
  have HRCI := Lib.hid (HRCC.out.2 ⟨k1, k2, k3⟩)
  go_cut [58] (fun s wx => s = .bool false ∧ Kept [] U wx)
  case first =>
    have z0 : (ck != 2) = false := by simpa using k1
    have z2 : ((ca : Int) != rcc) = false := by simpa using k2
    have z3 : (nfc != nfr) = false := by simpa using k3
    clear k1 k2 k3
    go_quiet (fail)
    go_wp2_with fail
    go_meet
    exact ⟨rfl, (Kept.refl [] U).drewN _⟩
  case rest =>
  obtain ⟨rfl, hkc⟩ := hcut
  have TC := Lib.hid (TU.out.keep hkc)
  have FC := Lib.hid (FU.out.trans (Fx.same (O := RowO N rw) hkc))
  have SGCc : Hid (SafeB (RowO N rw) wc gc) := SGC.out.fx (Fx.same (O := RowO N rw) hkc)
  have HGCc : Hid (Blk wc gc [.int .i64 ca, .int .i64 cb, .int .i64 ck, .int .i64 cc]) := hkc.blk (by simp) HGC.out
  clear C0U F0U Cg0U Fg0U Cg1U Fg1U CcU FcU f1 f2 k1 k2 k3 e1
  have ⟨L0c, C0c, F0c⟩ := SB0.out.blk FC.out HB00.out
  have ⟨Lg0c, Cg0c, Fg0c⟩ := SG0.out.blk FC.out HG0.out
  have ⟨Lg1c, Cg1c, Fg1c⟩ := SG1.out.blk FC.out HG1.out
  obtain ⟨Vc, hVc⟩ : ∃ V, V = wc := ⟨_, rfl⟩
  subst hVc
  have ⟨Lgcc, Cgcc, Fgcc⟩ := HGCc.out
  go_wp2_with fail
  go_loopw [5, 10] (fun s6 s10 wq => ∃ (j : Nat) (d2 : Bool) (T2 : Nat → Nat → Nat → D), j ≤ (gl p.fl i).length ∧ s6 = .bool d2 ∧ s10 = .int .i64 j ∧ Hid (Tw p N f wq go rw rc T2) ∧ Hid (Fx (RowO N rw) (RowO N rw) V0 wq) ∧ Hid (Fx (RowO N rw) (RowO N rw) Vc wq) ∧ Hid (Rs p T T2 d2) ∧ Hid (d2 = false → d1 = false) ∧ Hid (d2 = false → ∀ j', j' < j → ∀ q, (gl p.fl i)[j']? = some q → ∀ u ∈ gl p.fl k, RQ p T k i f q u)) (fun _ s10 _ => (gl p.fl i).length - (intOf s10).toNat)
  case atStart => exact ⟨0, d1, T1, Nat.zero_le _, rfl, rfl, TC, FC, Lib.hid (Fx.refl _ _), RS, Lib.hid (fun h => h), Lib.hid (fun _ j hj => absurd hj (Nat.not_lt_zero _))⟩
  case round =>
  rename World => wq
  clear TR FR RS TU FU TC C0c F0c Cg0c Fg0c Cg1c Fg1c Cgcc Fgcc
  obtain ⟨j, d2, T2, hj, rfl, rfl, TQ, FQ, FQc, RQ2, HB1, DQ⟩ := hrel
  have ⟨L0q, C0q, F0q⟩ := SB0.out.blk FQ.out HB00.out
  have ⟨Lg0q, Cg0q, Fg0q⟩ := SG0.out.blk FQ.out HG0.out
  have ⟨Lg1q, Cg1q, Fg1q⟩ := SG1.out.blk FQ.out HG1.out
  have ⟨Lgcq, Cgcq, Fgcq⟩ := SGCc.out.blk FQc.out HGCc.out
  have HLQ := Lib.hid (FQ.out.below HLV.out hbs.out)
  obtain ⟨b3', o3', Ai, ni, ci, e3, -, hl3, hk3, r3, hci, hxps, hni, hni2⟩ := HI.out.flow HO.out HLQ.out hie
  obtain ⟨rfl, rfl⟩ : b3 = b3' ∧ o3 = o3' := by have h := HE3.out.symm.trans e3; injection h with h; injection h with h1 h2; exact ⟨h1, h2⟩
  clear e3
  have hlen : (gl p.fl i).length = ni := hxps.1
  have HPR := Lib.hid hxps
  have HLEN := Lib.hid hlen
  rw [hlen] at hj
  clear hxps hlen
  by_cases hltj : j < ni
  case neg =>
    obtain rfl : j = ni := by omega
    have HRES : Hid (d2 = false → ∀ c, c < i + 1 → RC p k c → ∀ q ∈ gl p.fl c, ∀ u ∈ gl p.fl k, RQ p T k c f q u) := fun hb c hc hrc q hq => by
      rcases Nat.lt_or_ge c i with h1 | h1
      · exact DN.out (HB1.out hb) c h1 hrc q hq
      · obtain rfl : c = i := by omega
        obtain ⟨j', hj', rfl⟩ := List.getElem_of_mem hq
        exact DQ.out hb j' (by rw [← HLEN.out]; exact hj') _ (List.getElem?_eq_getElem hj')
    go_wp2_with fail
    exact ⟨⟨i + 1, d2, T2, by omega, rfl, by go_num, TQ, FQ, RQ2, HRES⟩, by simp [intOf]; omega⟩
  obtain ⟨b5, o5, q, qi, qo, rfl, hl50, hl5, hjq, hqm, hqi, hqo, hqiF, hqoF, r50, r51, r52, r53, r54⟩ := xps_at HO.out HLQ.out (l := gl p.fl i) (fun q hq => hq) HPR.out hltj
  have hj1 : (j : Int) < (ni : Int) := by omega
  have HXQ : Hid ((xd q).1 = ⟨q.k, q.b, q.c⟩) := xd_of HO.out HFI.out hqm
  have HJQ := Lib.hid hjq
  have HQM := Lib.hid hqm
  have HQO := Lib.hid hqo
  have HQI := Lib.hid hqi
  rw [HEF.out] at hqiF hqoF
  have HCELQ : Hid (∀ w9, Below w0.heap.size w0 w9 → b5 < w9.heap.size ∧ w9.cell? ⟨b5, o5 + j * 5, none⟩ = some (.int .i64 (qi : Nat)) ∧ w9.cell? ⟨b5, o5 + j * 5 + 1, none⟩ = some (.int .i64 (qo : Nat)) ∧ w9.cell? ⟨b5, o5 + j * 5 + 2, none⟩ = some (.int .i64 q.k) ∧ w9.cell? ⟨b5, o5 + j * 5 + 3, none⟩ = some (.int .i64 q.b) ∧ w9.cell? ⟨b5, o5 + j * 5 + 4, none⟩ = some (.int .i64 q.c)) := fun w9 hb9 => by
    have hh := fun x => (hb9.cell (p := ⟨b5, x, none⟩) hl50).trans ((HLQ.out.cell (p := ⟨b5, x, none⟩) hl50).symm)
    exact ⟨Nat.lt_of_lt_of_le hl50 hb9.size, (hh _).trans r50, (hh _).trans r51, (hh _).trans r52, (hh _).trans r53, (hh _).trans r54⟩
  have HCELI : Hid (∀ w9, Below w0.heap.size w0 w9 → w9.cell? ⟨b3, o3 + i, none⟩ = some (.slice (some ⟨b5, o5, none⟩) ni ci)) := fun w9 hb9 => ((hb9.cell (p := ⟨b3, _, none⟩) hl30).trans ((HLQ.out.cell (p := ⟨b3, _, none⟩) hl30).symm)).trans r3
  clear hjq hqm hqo hqi r50 r51 r52 r53 r54
  go_wp2_with fail
  go_loopw [5, 11] (fun s6 s11 wz => ∃ (m : Nat) (d3 : Bool) (T3 : Nat → Nat → Nat → D), m ≤ (gl p.fl k).length ∧ s6 = .bool d3 ∧ s11 = .int .i64 m ∧ Hid (Tw p N f wz go rw rc T3) ∧ Hid (Fx (RowO N rw) (RowO N rw) V0 wz) ∧ Hid (Fx (RowO N rw) (RowO N rw) Vc wz) ∧ Hid (Rs p T T3 d3) ∧ Hid (d3 = false → d2 = false) ∧ Hid (d3 = false → ∀ m', m' < m → ∀ u, (gl p.fl k)[m']? = some u → RQ p T k i f q u)) (fun _ s11 _ => (gl p.fl k).length - (intOf s11).toNat)
  case atStart => exact ⟨0, d2, T2, Nat.zero_le _, rfl, rfl, TQ, FQ, FQc, RQ2, Lib.hid (fun h => h), Lib.hid (fun _ j hj => absurd hj (Nat.not_lt_zero _))⟩
  case round =>
  rename World => wz
  clear TQ RQ2 C0q F0q Cg0q Fg0q Cg1q Fg1q Cgcq Fgcq hl3 hl5 r3
  obtain ⟨m, d3, T3, hm, rfl, rfl, TZ, FZ, FZc, RQ3, HB2, DZ⟩ := hrel
  have ⟨L0z, C0z, F0z⟩ := SB0.out.blk FZ.out HB00.out
  have ⟨Lg0z, Cg0z, Fg0z⟩ := SG0.out.blk FZ.out HG0.out
  have ⟨Lg1z, Cg1z, Fg1z⟩ := SG1.out.blk FZ.out HG1.out
  have ⟨Lgcz, Cgcz, Fgcz⟩ := SGCc.out.blk FZc.out HGCc.out
  have HLZ := Lib.hid (FZ.out.below HLV.out hbs.out)
  obtain ⟨b3', o3', Ak, nk, ck', e3, -, hl3, hk3', r3, hck', hxps, hnk, hnk2⟩ := HI.out.flow HO.out HLZ.out hk
  obtain ⟨rfl, rfl⟩ : b3 = b3' ∧ o3 = o3' := by have h := HE3.out.symm.trans e3; injection h with h; injection h with h1 h2; exact ⟨h1, h2⟩
  clear e3
  have hlen : (gl p.fl k).length = nk := hxps.1
  have HPK := Lib.hid hxps
  have HLENK := Lib.hid hlen
  rw [hlen] at hm
  clear hxps hlen
  by_cases hltm : m < nk
  case neg =>
    obtain rfl : m = nk := by omega
    have HRES : Hid (d3 = false → ∀ j', j' < j + 1 → ∀ q', (gl p.fl i)[j']? = some q' → ∀ u ∈ gl p.fl k, RQ p T k i f q' u) := fun hb j' hj' q' hq' u hu => by
      rcases Nat.lt_or_ge j' j with h1 | h1
      · exact DQ.out (HB2.out hb) j' h1 q' hq' u hu
      · obtain rfl : j' = j := by omega
        rw [HJQ.out] at hq'
        injection hq' with hq'
        subst hq'
        obtain ⟨m', hm', rfl⟩ := List.getElem_of_mem hu
        exact DZ.out hb m' (by rw [← HLENK.out]; exact hm') _ (List.getElem?_eq_getElem hm')
    have HB12 : Hid (d3 = false → d1 = false) := fun h => HB1.out (HB2.out h)
    go_wp2_with fail
    exact ⟨⟨j + 1, d3, T3, by rw [HLEN.out]; omega, rfl, by go_num, TZ, FZ, FZc, RQ3, HB12, HRES⟩, by simp [intOf]; rw [HLEN.out]; omega⟩
  obtain ⟨b6, o6, u, si, so, rfl, hl60, hl6, hju, hum, hsi, hso, hsiF, hsoF, r60, r61, r62, r63, r64⟩ := xps_at HO.out HLZ.out (l := gl p.fl k) (fun q hq => hq) HPK.out hltm
  have hm1 : (m : Int) < (nk : Int) := by omega
  have HXU : Hid ((xd u).1 = ⟨u.k, u.b, u.c⟩) := xd_of HO.out HFI.out hum
  have HJU := Lib.hid hju
  have HUM := Lib.hid hum
  have HSO := Lib.hid hso
  have HSI := Lib.hid hsi
  rw [HEF.out] at hsiF hsoF
  have r3i := HCELI.out wz HLZ.out
  obtain ⟨hl5, r50, r51, r52, r53, r54⟩ := HCELQ.out wz HLZ.out
  obtain ⟨qk, hqk⟩ : ∃ v, q.k = v := ⟨_, rfl⟩
  obtain ⟨qb, hqb⟩ : ∃ v, q.b = v := ⟨_, rfl⟩
  obtain ⟨qc, hqc⟩ : ∃ v, q.c = v := ⟨_, rfl⟩
  obtain ⟨uk, huk⟩ : ∃ v, u.k = v := ⟨_, rfl⟩
  obtain ⟨ub, hub⟩ : ∃ v, u.b = v := ⟨_, rfl⟩
  obtain ⟨uc, huc⟩ : ∃ v, u.c = v := ⟨_, rfl⟩
  have HXQE : Hid ((xd q).1 = ⟨qk, qb, qc⟩) := by rw [← hqk, ← hqb, ← hqc]; exact HXQ
  have HXUE : Hid ((xd u).1 = ⟨uk, ub, uc⟩) := by rw [← huk, ← hub, ← huc]; exact HXU
  rw [hqk] at r52
  rw [hqb] at r53
  rw [hqc] at r54
  rw [huk] at r62
  rw [hub] at r63
  rw [huc] at r64
  have HSN : Hid (∀ Y, Clo p Y → ∀ a, le (Y rb a so) (comp (comp (comp (Y ca a qi) (xd q)) (Y ra qo si)) (xd u))) := fun Y hY a => by
    have h7 := hY.ret i hie HRCI.out.1 q HQM.out k hk HKD.out u HUM.out HRCI.out.2.1 HRCI.out.2.2 a
    rw [HRA.out, HRB.out, HCA.out, HQI.out, HQO.out, HSI.out, HSO.out] at h7
    simp only [Int.toNat_natCast] at h7
    exact h7
  have HAC : Hid (∀ w9, Kept [] wz w9 → Calls Tryd.prog 106 #[.agg #[.slice K.A1 K.n1 K.c1, .slice K.A2 K.n2 K.c2, .int .i64 mn, .int .i64 (f : Nat), .slice (some ⟨b3, o3, none⟩) K.n3 K.c3, .slice K.A4 K.n4 K.c4, .slice (some ⟨go, 0, none⟩) N cN], .int .i64 ca, .agg #[.int .i64 ra, .int .i64 rb, .int .i64 rk, .int .i64 rcc], .agg #[.int .i64 qi, .int .i64 qo, .int .i64 qk, .int .i64 qb, .int .i64 qc], .agg #[.int .i64 si, .int .i64 so, .int .i64 uk, .int .i64 ub, .int .i64 uc]] w9 (GetR p N f go rw rc wz T3 (∀ a, a < f → le (T3 rb a so) (comp (comp (comp (T3 ca a qi) (xd q)) (T3 ra qo si)) (xd u))))) := fun w9 hk9 => by
    rw [← HE3.out]
    exact (racross_any w9 ca ra rb qi qo si so rk rcc qk qb qc uk ub uc q u HR.out (TZ.out.keep hk9) hcaN hraN hrbN hqiF hqoF hsiF hsoF HXQE.out HXUE.out HSN.out).mono (fun e w' h9 => h9.from hk9)
  clear hju hum hso hsi hqk hqb hqc huk hub huc HXQ HXU
  go_upto_region 15 with fail
  refine wp_region_E 22 (fun w' => SX0 wz w') (by kernel_rfl) (by (exact kp0)) (fun hHeld => ?_)
  refine WE_tk 0 ?_
  refine WE_tk 1 ?_
  refine WE_tk 2 ?_
  refine WE_tk 3 ?_
  refine WE_tk 4 ?_
  refine WE_tk 5 ?_
  refine WE_tk 6 ?_
  refine WE_tk 7 ?_
  refine WE_tk 8 ?_
  refine WE_tk 9 ?_
  refine WE_tk 10 ?_
  refine WE_tk 11 ?_
  refine WE_tk 12 ?_
  refine WE_tk 13 ?_
  refine WE_tk 14 ?_
  refine WE_tk 15 ?_
  refine WE_tk 16 ?_
  refine WE_tk 17 ?_
  refine WE_tk 18 ?_
  refine WE_tk 19 ?_
  refine WE_tk 20 ?_
  refine WE_tk 21 ?_
  refine WE_last rfl (by kernel_rfl) (fun K hK => ?_)
  go_simp
  (go_at_call 106; refine (HAC.out _ (by (exact kpt0))).mono ?_; rintro e w7 ⟨bb, T7, rfl, hT7, hF7, hR7, hQ7⟩)
  (try go_wp2_with fail)
  refine hK.out _ _ ?_
  clear hK K
  have F7 := Lib.hid (FZ.out.trans hF7)
  have F7c := Lib.hid (FZc.out.trans hF7)
  have HT7 := Lib.hid hT7
  have HR7 := Lib.hid (RQ3.out.trans hR7)
  have HNX : Hid ((d3 || bb) = false → ∀ m', m' < m + 1 → ∀ u', (gl p.fl k)[m']? = some u' → RQ p T k i f q u') := fun hb m' hm' u' hu' => by
    rw [Bool.or_eq_false_iff] at hb
    rcases Nat.lt_or_ge m' m with h1 | h1
    · exact DZ.out hb.1 m' h1 u' hu'
    · obtain rfl : m' = m := by omega
      rw [HJU.out] at hu'
      injection hu' with hu'
      subst hu'
      have h2 := hQ7 hb.2
      rw [RQ3.out.same hb.1] at h2
      intro a ha
      have h3 := h2 a ha
      rw [HRA.out, HRB.out, HCA.out, HQI.out, HQO.out, HSI.out, HSO.out]
      simp only [Int.toNat_natCast]
      exact h3
  clear hT7 hF7 hR7 hQ7 C0z F0z Cg0z Fg0z Cg1z Fg1z Cgcz Fgcz r3 r3i r50 r51 r52 r53 r54 r60 r61 r62 r63 r64
  cases bb with
  | true =>
    go_wp2_with fail
    exact ⟨⟨m + 1, true, T7, by rw [HLENK.out]; omega, rfl, by go_num, HT7, F7, F7c, by have h9 := HR7.out; rw [Bool.or_true] at h9; exact h9, (fun h => by cases h), (fun h => by cases h)⟩, by simp [intOf]; rw [HLENK.out]; omega⟩
  | false =>
    have HR8 : Hid (Rs p T T7 d3) := by have h9 := HR7.out; rw [Bool.or_false] at h9; exact h9
    have HNX2 : Hid (d3 = false → ∀ m', m' < m + 1 → ∀ u', (gl p.fl k)[m']? = some u' → RQ p T k i f q u') := by have h9 := HNX.out; rw [Bool.or_false] at h9; exact h9
    go_wp2_with fail
    exact ⟨⟨m + 1, d3, T7, by rw [HLENK.out]; omega, rfl, by go_num, HT7, F7, F7c, HR8, HB2, HNX2⟩, by simp [intOf]; rw [HLENK.out]; omega⟩
end Go.Proofs.YtincpmdldpakkaaDoor
namespace Go.Proofs.YtincpmdldpakkaaDoor
open Go.RowKit Go.Df Go.Df.Iv Go.Df.Sp
attribute [local go_sem ↓] Go.wp_at_zero Go.wp_at_succ
set_option maxRecDepth 100000 in
set_option maxHeartbeats 40000000 in
theorem rseeded_any {p : Vb} {K : Kn} {w0 : World} {N f go cN : Nat} {mn : Int} {rw rc : Nat → Nat} {T : Nat → Nat → Nat → D} (w : World) (hR : Rin p K w0 N f go rw) (hlow : Below w0.heap.size w0 w) (hT : Tw p N f w go rw rc T) (hn4 : K.n4 ≤ 1000000) :
    Calls Tryd.prog 70 #[.agg #[.slice K.A1 K.n1 K.c1, .slice K.A2 K.n2 K.c2, .int .i64 mn, .int .i64 (f : Nat), .slice K.A3 K.n3 K.c3, .slice K.A4 K.n4 K.c4, .slice (some ⟨go, 0, none⟩) N cN]] w
      (GetR p N f go rw rc w T (∀ u ∈ p.sd, T u.n.toNat 0 0 ≠ top → le (T u.n.toNat 0 u.f.toNat) (sx u))) := by
  have hf2 : f ≤ 1024 := by have h1 := hR.ok.f2; have h2 := hR.eF; omega
  have hf1 : 0 < f := by have h1 := hR.ok.f1; have h2 := hR.eF; omega
  have HR := Lib.hid hR
  have HO := Lib.hid hR.ok
  have HI := Lib.hid hR.inp
  have HFI := Lib.hid hR.fit
  have HT := Lib.hid hT
  have HLOW := Lib.hid hlow
  have HEF : Hid (p.F.toNat = f) := by show _ = _; rw [hR.eF, Int.toNat_natCast]
  have HEN := Lib.hid hR.eN
  have HSL := Lib.hid hR.inp.sd.1
  clear hR hlow hT
  go_enter Tryd.func70, Tryd.ntmps70
  go_upto_region 1 with fail
  refine wp_named (fun W => ∃ b0, w.heap.size = b0 ∧ Blk W b0 [.slice K.A1 K.n1 K.c1, .slice K.A2 K.n2 K.c2, .int .i64 mn, .int .i64 (f : Nat), .slice K.A3 K.n3 K.c3, .slice K.A4 K.n4 K.c4, .slice (some ⟨go, 0, none⟩) N cN] ∧ Below w.heap.size w W) ⟨_, rfl, ?_, ?_⟩ ?_
  · exact Blk.new _ _ _ _ (by first | rfl | simp)
  · go_grown
  rintro W ⟨b0, e0, B0, hB⟩
  rw [e0]
  have G0 : w.heap.size ≤ b0 := by omega
  clear e0
  have ⟨L0, C0, F0⟩ := B0
  have hkW : Kept [] w W := (Kept.refl _ _).call hB
  have TW := Lib.hid (HT.out.keep hkW)
  have HLW := Lib.hid (HLOW.out.trans (hkW.toBelow.mono HLOW.out.size))
  have SB : Hid (SafeB (RowO N rw) W b0) := ⟨L0, fun ⟨n, hn, e⟩ => by have h1 := HT.out.lt n hn; omega⟩
  have HB0 := Lib.hid B0
  have hbs : Hid (∀ x, RowO N rw x → w0.heap.size ≤ x) := fun x ⟨n, hn, e⟩ => by rw [e]; exact HR.out.base n hn
  have Fw : Hid (Fx (RowO N rw) (RowO N rw) w W) := Fx.same hkW
  go_wp2_with fail
  go_loopw [3, 4] (fun sm si wr => ∃ (i : Nat) (d1 : Bool) (T1 : Nat → Nat → Nat → D), i ≤ K.n4 ∧ sm = .bool d1 ∧ si = .int .i64 i ∧ Hid (Tw p N f wr go rw rc T1) ∧ Hid (Fx (RowO N rw) (RowO N rw) W wr) ∧ Hid (Rs p T T1 d1) ∧ Hid (d1 = false → ∀ j, j < i → ∀ u, p.sd[j]? = some u → T u.n.toNat 0 0 ≠ top → le (T u.n.toNat 0 u.f.toNat) (sx u))) (fun _ si _ => K.n4 - (intOf si).toNat)
  case atStart => exact ⟨0, false, T, Nat.zero_le _, rfl, rfl, TW, Lib.hid (Fx.refl _ _), Lib.hid (Rs.refl p T), Lib.hid (fun _ j hj => absurd hj (Nat.not_lt_zero _))⟩
  case round =>
  rename World => wr
  clear TW C0 F0
  obtain ⟨i, d1, T1, hi, rfl, rfl, TR, FR, RS, DN⟩ := hrel
  have ⟨L0r, C0r, F0r⟩ := SB.out.blk FR.out HB0.out
  by_cases hlt : i < K.n4
  case neg =>
    obtain rfl : i = K.n4 := by omega
    have HRES : Hid (d1 = false → ∀ u ∈ p.sd, T u.n.toNat 0 0 ≠ top → le (T u.n.toNat 0 u.f.toNat) (sx u)) := fun hb u hu => by
      obtain ⟨j, hj, rfl⟩ := List.getElem_of_mem hu
      exact DN.out hb j (by rw [← HSL.out]; exact hj) _ (List.getElem?_eq_getElem hj)
    go_wp2_with fail
    go_ret
    exact ⟨d1, T1, rfl, TR.out, Fw.out.trans FR.out, RS.out, HRES.out⟩
  have hi1 : (i : Int) < (K.n4 : Int) := by omega
  have his : i < p.sd.length := by rw [HSL.out]; exact hlt
  have HLR := Lib.hid (FR.out.below HLW.out hbs.out)
  obtain ⟨b4, o4, e4, hl40, hc40⟩ := HI.out.sd.2 (by omega)
  have hl4 : b4 < wr.heap.size := Nat.lt_of_lt_of_le hl40 HLR.out.size
  obtain ⟨u, hu⟩ : ∃ u, gs p.sd i = u := ⟨_, rfl⟩
  have hum : u ∈ p.sd := by rw [← hu]; exact gs_mem his
  have hju : p.sd[i]? = some u := by rw [← hu, gs_lt his]; exact List.getElem?_eq_getElem his
  have hsd := HO.out.seed hum
  obtain ⟨n, hn⟩ := Int.eq_ofNat_of_zero_le hsd.1
  obtain ⟨d, hd⟩ := Int.eq_ofNat_of_zero_le (show 0 ≤ u.f by omega)
  have hnN : n < N := by rw [HEN.out]; omega
  have hdF : d < f := by rw [← HEF.out]; omega
  obtain ⟨c1, c2, c3, c4⟩ := hc40 i hlt
  replace c1 := (HLR.out.cell (p := ⟨b4, _, none⟩) hl40).trans c1
  replace c2 := (HLR.out.cell (p := ⟨b4, _, none⟩) hl40).trans c2
  replace c3 := (HLR.out.cell (p := ⟨b4, _, none⟩) hl40).trans c3
  replace c4 := (HLR.out.cell (p := ⟨b4, _, none⟩) hl40).trans c4
  rw [hu] at c1 c2 c3 c4
  rw [hn] at c1
  rw [hd] at c2
  obtain ⟨uk, huk⟩ : ∃ v, u.k = v := ⟨_, rfl⟩
  obtain ⟨uv, huv⟩ : ∃ v, u.v = v := ⟨_, rfl⟩
  rw [huk] at c3
  rw [huv] at c4
  have HFU := Lib.hid (HFI.out.sd u hum)
  have HJU := Lib.hid hju
  have HUM := Lib.hid hum
  have HN := Lib.hid hn
  have HD := Lib.hid hd
  have HUK := Lib.hid huk
  have HUV := Lib.hid huv
  clear hu hum hju hsd hn hd huk huv hc40
  go_upto_region 6 with fail
  refine wp_named (fun V => ∃ g, wr.heap.size = g ∧ Blk V g [.int .i64 n, .int .i64 d, .int .i64 uk, .int .i64 uv] ∧ Kept [] wr V) ⟨_, rfl, Blk.new _ _ _ _ rfl, (Kept.refl _ _).alloc _⟩ ?_
  rintro U ⟨gs, eg, Bg, hkU⟩
  rw [eg]
  have TU := Lib.hid (TR.out.keep hkU)
  have FU := Lib.hid (FR.out.trans (Fx.same (O := RowO N rw) hkU))
  have hgs : wr.heap.size ≤ gs := by omega
  have ⟨Lg, Cg, Fg⟩ := Bg
  have HBg := Lib.hid Bg
  clear C0r F0r c1 c2 c3 c4 e4 eg Bg
  have B0U := SB.out.blk FU.out HB0.out
  have ⟨L0U, C0U, F0U⟩ := B0U
  obtain ⟨y0, hy0⟩ : ∃ v, (T1 n 0 0).1.k = v := ⟨_, rfl⟩
  obtain ⟨y1, hy1⟩ : ∃ v, (T1 n 0 0).1.b = v := ⟨_, rfl⟩
  obtain ⟨y2, hy2⟩ : ∃ v, (T1 n 0 0).1.c = v := ⟨_, rfl⟩
  have eY : (T1 n 0 0).1 = ⟨y0, y1, y2⟩ := by rw [← hy0, ← hy1, ← hy2]
  have HTT : Hid (T1 n 0 0 = top ↔ y0 = 0) := by show _ ↔ _; rw [← kind_top, eY]
  have HAT : Hid (∀ w9, Kept [] U w9 → Calls Tryd.prog 77 #[.agg #[.slice K.A1 K.n1 K.c1, .slice K.A2 K.n2 K.c2, .int .i64 mn, .int .i64 (f : Nat), .slice K.A3 K.n3 K.c3, .slice K.A4 K.n4 K.c4, .slice (some ⟨go, 0, none⟩) N cN], .int .i64 0, .int .i64 n, .int .i64 0] w9 fun e w' => e = .returned (.agg #[.int .i64 y0, .int .i64 y1, .int .i64 y2]) ∧ Below w9.heap.size w9 w') := fun w9 hk9 => rat_any w9 0 n 0 (TU.out.keep hk9) hnN hf1 hf1 hf2 eY
  have HNXT : Hid (∀ (bb : Bool) (T2 : Nat → Nat → Nat → D), (bb = false → T1 n 0 0 ≠ top → le (T1 n 0 d) (sx u)) → (d1 || bb) = false → ∀ j, j < i + 1 → ∀ u', p.sd[j]? = some u' → T u'.n.toNat 0 0 ≠ top → le (T u'.n.toNat 0 u'.f.toNat) (sx u')) := fun bb T2 hq hb j hj u' hu' => by
    rw [Bool.or_eq_false_iff] at hb
    rcases Nat.lt_or_ge j i with h1 | h1
    · exact DN.out hb.1 j h1 u' hu'
    · obtain rfl : j = i := by omega
      rw [HJU.out] at hu'
      injection hu' with hu'
      rw [← hu', HN.out, HD.out, Int.toNat_natCast, Int.toNat_natCast]
      have h2 := hq hb.2
      rw [RS.out.same hb.1] at h2
      exact h2
  clear hy0 hy1 hy2 eY
  have hfd : ∀ (x0 x1 x2 : Value) (w : World), (Instr.field 50 (.agg #[x0, x1, x2]) 0).run Tryd.prog w = .ok x0 w := fun _ _ _ _ => by kernel_rfl
  by_cases ht0 : y0 = 0
  · have HE : Hid (d1 = false → ∀ j, j < i + 1 → ∀ u', p.sd[j]? = some u' → T u'.n.toNat 0 0 ≠ top → le (T u'.n.toNat 0 u'.f.toNat) (sx u')) := fun hb => HNXT.out false T1 (fun _ h9 => absurd (HTT.out.2 ht0) h9) (by rw [hb]; rfl)
    subst ht0
    go_wp2_with (go_at_call 77; refine (HAT.out _ (by (exact kpt0))).mono ?_; rintro e w4 ⟨rfl, hb4⟩; have hk4 : Kept [] U w4 := Kept.call (by (exact kpt0)) hb4)
    exact ⟨⟨i + 1, d1, T1, by omega, rfl, by go_num, Lib.hid (TU.out.keep hk4), Lib.hid (FU.out.trans (Fx.same (O := RowO N rw) hk4)), RS, HE⟩, by simp [intOf]; omega⟩
  have hy0n : (y0 == 0) = false := by simpa using ht0
  have HTN : Hid (T1 n 0 0 ≠ top) := fun h => ht0 (HTT.out.1 h)
  clear ht0
  go_upto_region 8 with (go_at_call 77; refine (HAT.out _ (by (exact kpt0))).mono ?_; rintro e w4 ⟨rfl, hb4⟩; have hk4 : Kept [] U w4 := Kept.call (by (exact kpt0)) hb4)
  refine wp_named (fun V => ∃ g, w4.heap.size = g ∧ Blk V g [.int .i64 0, .int .i64 0, .int .i64 0] ∧ Kept [] w4 V) ⟨_, rfl, Blk.new _ _ _ _ rfl, (Kept.refl _ _).alloc _⟩ ?_
  rintro V ⟨gx, ex, Bx, hkV⟩
  rw [ex]
  have hkUV : Kept [] U V := keptTrans hk4 hkV
  have TV := Lib.hid (TU.out.keep hkUV)
  have FV := Lib.hid (FU.out.trans (Fx.same (O := RowO N rw) hkUV))
  have ⟨Lx, Cx, Fx_⟩ := Bx
  have HBx := Lib.hid Bx
  have hgx : U.heap.size ≤ gx := by have := hk4.size; omega
  have Bgs := Lib.hid (hkUV.blk (by simp) HBg.out)
  have B0V := Lib.hid (hkUV.blk (by simp) B0U)
  have ⟨LgV, CgV, FgV⟩ := Bgs.out
  have ⟨L0V, C0V, F0V⟩ := B0V.out
  have h0x : b0 ∉ [gx] := by simp; omega
  have hsx : gs ∉ [gx] := by simp; omega
  have hrx : ∀ m, m < N → rw m ∉ [gx] := fun m hm => by have h1 := TU.out.lt m hm; simp; omega
  have hgox : go ∉ [gx] := by have h1 := TU.out.glt; simp; omega
  have HFXX : Hid (∀ Z, Kept [gx] V Z → Fx (RowO N rw) (RowO N rw) W Z) := fun Z hZ => FU.out.trans (Fx.of (O := RowO N rw) ((keptNil hkUV).next hZ (fun y hy => .inl hy)) (fun y hy => .inr (by have h9 : y = gx := (by simpa using hy); omega)) (fun y hy => .inl hy))
  have HTX : Hid (∀ Z, Kept [gx] V Z → Tw p N f Z go rw rc T1) := fun Z hZ => TV.out.kept hZ hgox hrx
  obtain ⟨T2, hT2⟩ : ∃ T2, tput T1 n 0 d (meet (T1 n 0 d) (sx u)) = T2 := ⟨_, rfl⟩
  obtain ⟨bb, hbb⟩ : ∃ bb, (!decide (meet (T1 n 0 d) (sx u) = T1 n 0 d)) = bb := ⟨_, rfl⟩
  have HR2 : Hid (Rs p T1 T2 bb) := by
    rw [← hbb, ← hT2]
    exact Rs.inc (by rw [← HEN.out]; exact hnN) (by rw [HEF.out]; exact hf1) (by rw [HEF.out]; exact hdF) (fun Y hY hle => by
      have h7 := hY.seed u HUM.out
      rw [HN.out, HD.out, Int.toNat_natCast, Int.toNat_natCast] at h7
      exact h7 (fun h0 => HTN.out (top_of_le (h0 ▸ hle n 0 0))))
  have HQ2 : Hid (bb = false → T1 n 0 0 ≠ top → le (T1 n 0 d) (sx u)) := fun hb _ => inc_no (by rw [hbb]; exact hb)
  have HINC : Hid (∀ Z w9 (x0 x1 x2 : Int), Tw p N f Z go rw rc T1 → Kept [] Z w9 → (sx u).1 = ⟨x0, x1, x2⟩ → Calls Tryd.prog 68 #[.agg #[.slice K.A1 K.n1 K.c1, .slice K.A2 K.n2 K.c2, .int .i64 mn, .int .i64 (f : Nat), .slice K.A3 K.n3 K.c3, .slice K.A4 K.n4 K.c4, .slice (some ⟨go, 0, none⟩) N cN], .int .i64 0, .int .i64 n, .int .i64 d, .agg #[.int .i64 x0, .int .i64 x1, .int .i64 x2]] w9 fun e w' => e = .returned (.bool bb) ∧ Tw p N f w' go rw rc T2 ∧ Fx (RowO N rw) (RowO N rw) Z w') := fun Z w9 x0 x1 x2 hTw hkz hx =>
    (rinc_any w9 0 n d (sx u) (hTw.keep hkz) hnN hf1 hdF hf2 hx).mono (fun e w' ⟨h1, h2, h3⟩ => ⟨by rw [h1, hbb], by rw [← hT2]; exact h2, (Fx.same hkz).trans (RowO.fx hnN h3)⟩)
  have HE := Lib.hid (HNXT.out bb T2 HQ2.out)
  have HR7 := Lib.hid (RS.out.trans HR2.out)
  clear hT2 hbb
  clear Cg Fg C0U F0U ex Bx
  by_cases h1 : uk = 1
  · have HSX : Hid ((sx u).1 = ⟨1, 0, uv⟩) := by show _ = _; rw [← HUV.out]; exact sx_const (HUK.out.trans h1) HFU.out
    subst h1
    go_upto_region 12 with fail
    refine wp_named (fun Z => Blk Z gx [.int .i64 1, .int .i64 0, .int .i64 uv] ∧ Kept [gx] V Z) ⟨Blk.set3 (HBx.out.n rfl), ((((Kept.refl [gx] V).set gx 0 _ (.inl (by simp))).set gx 1 _ (.inl (by simp))).set gx 2 _ (.inl (by simp)))⟩ ?_
    rintro Z ⟨BZ, hkZ⟩
    have ⟨LZ, CZ, FZ⟩ := BZ
    have ⟨LgZ, CgZ, FgZ⟩ := hkZ.blk hsx Bgs.out
    have ⟨L0Z, C0Z, F0Z⟩ := hkZ.blk h0x B0V.out
    have TZ := Lib.hid (HTX.out Z hkZ)
    have FZ0 := Lib.hid (HFXX.out Z hkZ)
    clear Cx Fx_ CgV FgV C0V F0V hkZ
    cases bb with
    | true =>
      go_wp2_with (go_at_call 68; refine (HINC.out _ _ _ _ _ TZ.out (by (exact kpt0)) HSX.out).mono ?_; rintro e w7 ⟨rfl, hT7, hF7⟩)
      exact ⟨⟨i + 1, true, T2, by omega, rfl, by go_num, Lib.hid hT7, Lib.hid (FZ0.out.trans hF7), by have h9 := HR7.out; rw [Bool.or_true] at h9; exact h9, (fun h => by cases h)⟩, by simp [intOf]; omega⟩
    | false =>
      have HR8 : Hid (Rs p T T2 d1) := by have h9 := HR7.out; rw [Bool.or_false] at h9; exact h9
      have HE2 : Hid (d1 = false → ∀ j, j < i + 1 → ∀ u', p.sd[j]? = some u' → T u'.n.toNat 0 0 ≠ top → le (T u'.n.toNat 0 u'.f.toNat) (sx u')) := by have h9 := HE.out; rw [Bool.or_false] at h9; exact h9
      go_wp2_with (go_at_call 68; refine (HINC.out _ _ _ _ _ TZ.out (by (exact kpt0)) HSX.out).mono ?_; rintro e w7 ⟨rfl, hT7, hF7⟩)
      exact ⟨⟨i + 1, d1, T2, by omega, rfl, by go_num, Lib.hid hT7, Lib.hid (FZ0.out.trans hF7), HR8, HE2⟩, by simp [intOf]; omega⟩
  by_cases h2 : uk = 2
  · have HSX : Hid ((sx u).1 = ⟨4, 0, 0⟩) := sx_bot (HUK.out.trans h2)
    subst h2
    go_upto_region 12 with fail
    refine wp_named (fun Z => Blk Z gx [.int .i64 4, .int .i64 0, .int .i64 0] ∧ Kept [gx] V Z) ⟨Blk.set3 (HBx.out.n rfl), ((((Kept.refl [gx] V).set gx 0 _ (.inl (by simp))).set gx 1 _ (.inl (by simp))).set gx 2 _ (.inl (by simp)))⟩ ?_
    rintro Z ⟨BZ, hkZ⟩
    have ⟨LZ, CZ, FZ⟩ := BZ
    have ⟨LgZ, CgZ, FgZ⟩ := hkZ.blk hsx Bgs.out
    have ⟨L0Z, C0Z, F0Z⟩ := hkZ.blk h0x B0V.out
    have TZ := Lib.hid (HTX.out Z hkZ)
    have FZ0 := Lib.hid (HFXX.out Z hkZ)
    clear Cx Fx_ CgV FgV C0V F0V hkZ
    cases bb with
    | true =>
      go_wp2_with (go_at_call 68; refine (HINC.out _ _ _ _ _ TZ.out (by (exact kpt0)) HSX.out).mono ?_; rintro e w7 ⟨rfl, hT7, hF7⟩)
      exact ⟨⟨i + 1, true, T2, by omega, rfl, by go_num, Lib.hid hT7, Lib.hid (FZ0.out.trans hF7), by have h9 := HR7.out; rw [Bool.or_true] at h9; exact h9, (fun h => by cases h)⟩, by simp [intOf]; omega⟩
    | false =>
      have HR8 : Hid (Rs p T T2 d1) := by have h9 := HR7.out; rw [Bool.or_false] at h9; exact h9
      have HE2 : Hid (d1 = false → ∀ j, j < i + 1 → ∀ u', p.sd[j]? = some u' → T u'.n.toNat 0 0 ≠ top → le (T u'.n.toNat 0 u'.f.toNat) (sx u')) := by have h9 := HE.out; rw [Bool.or_false] at h9; exact h9
      go_wp2_with (go_at_call 68; refine (HINC.out _ _ _ _ _ TZ.out (by (exact kpt0)) HSX.out).mono ?_; rintro e w7 ⟨rfl, hT7, hF7⟩)
      exact ⟨⟨i + 1, d1, T2, by omega, rfl, by go_num, Lib.hid hT7, Lib.hid (FZ0.out.trans hF7), HR8, HE2⟩, by simp [intOf]; omega⟩
  have HSX : Hid ((sx u).1 = ⟨0, 0, 0⟩) := by show _ = _; rw [sx_top (by rw [HUK.out]; exact h1) (by rw [HUK.out]; exact h2)]; rfl
  have h1' : (uk == 1) = false := by simpa using h1
  have h2' : (uk == 2) = false := by simpa using h2
  clear h1 h2
  go_upto_region 12 with fail
  refine wp_named (fun Z => Blk Z gx [.int .i64 0, .int .i64 0, .int .i64 0] ∧ Kept [gx] V Z) ⟨HBx.out, Kept.refl _ _⟩ ?_
  rintro Z ⟨BZ, hkZ⟩
  have ⟨LZ, CZ, FZ⟩ := BZ
  have ⟨LgZ, CgZ, FgZ⟩ := hkZ.blk hsx Bgs.out
  have ⟨L0Z, C0Z, F0Z⟩ := hkZ.blk h0x B0V.out
  have TZ := Lib.hid (HTX.out Z hkZ)
  have FZ0 := Lib.hid (HFXX.out Z hkZ)
  clear Cx Fx_ CgV FgV C0V F0V hkZ
  cases bb with
  | true =>
    go_wp2_with (go_at_call 68; refine (HINC.out _ _ _ _ _ TZ.out (by (exact kpt0)) HSX.out).mono ?_; rintro e w7 ⟨rfl, hT7, hF7⟩)
    exact ⟨⟨i + 1, true, T2, by omega, rfl, by go_num, Lib.hid hT7, Lib.hid (FZ0.out.trans hF7), by have h9 := HR7.out; rw [Bool.or_true] at h9; exact h9, (fun h => by cases h)⟩, by simp [intOf]; omega⟩
  | false =>
    have HR8 : Hid (Rs p T T2 d1) := by have h9 := HR7.out; rw [Bool.or_false] at h9; exact h9
    have HE2 : Hid (d1 = false → ∀ j, j < i + 1 → ∀ u', p.sd[j]? = some u' → T u'.n.toNat 0 0 ≠ top → le (T u'.n.toNat 0 u'.f.toNat) (sx u')) := by have h9 := HE.out; rw [Bool.or_false] at h9; exact h9
    go_wp2_with (go_at_call 68; refine (HINC.out _ _ _ _ _ TZ.out (by (exact kpt0)) HSX.out).mono ?_; rintro e w7 ⟨rfl, hT7, hF7⟩)
    exact ⟨⟨i + 1, d1, T2, by omega, rfl, by go_num, Lib.hid hT7, Lib.hid (FZ0.out.trans hF7), HR8, HE2⟩, by simp [intOf]; omega⟩
end Go.Proofs.YtincpmdldpakkaaDoor
