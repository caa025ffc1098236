/- Texts: Al. -/
import Derived.Test.YtincpmdldpakkaaDoorCs31
namespace Go.Df.Iv
open Go Go.RowKit Go.Df.Sp
theorem Tw.fx {p : Vb} {N f : Nat} {w w' : World} {go : Nat} {rw rc : Nat → Nat} {T : Nat → Nat → Nat → D} {O O' : Nat → Prop} (h : Tw p N f w go rw rc T) (k : Fx O O' w w') (hg : SafeB O w go) (hr : ∀ n, n < N → SafeB O w (rw n)) : Tw p N f w' go rw rc T :=
  ⟨(hg.fx k).1, fun n hn => (hg.cell k n).trans (h.row n hn), fun n a d hn ha hd => ⟨((hr n hn).cell k _).trans (h.cell n a d hn ha hd).1, ((hr n hn).cell k _).trans (h.cell n a d hn ha hd).2.1, ((hr n hn).cell k _).trans (h.cell n a d hn ha hd).2.2⟩,
    fun n i hn => (World.frozen?_of_block (w := w) ((hr n hn).heap k)).trans (h.fr n i hn), fun n hn => ((hr n hn).fx k).1, h.inj, h.ne, h.top⟩
structure Ln (p : Vb) (N f : Nat) (w : World) (O : Nat → Prop) (go : Nat) (rw rc : Nat → Nat) (T : Nat → Nat → Nat → D) (As : Option Addr) (cs : Nat) : Prop where
  tw : Tw p N f w go rw rc T
  sg : SafeB O w go
  sr : ∀ n, n < N → SafeB O w (rw n)
  st : SInO O w As N cs (ofNats (stL p.ns N))
theorem Ln.fx {p : Vb} {N f : Nat} {w w' : World} {go : Nat} {rw rc : Nat → Nat} {T : Nat → Nat → Nat → D} {O : Nat → Prop} {As : Option Addr} {cs : Nat} (h : Ln p N f w O go rw rc T As cs) (k : Fx O O w w') : Ln p N f w' O go rw rc T As cs :=
  ⟨h.tw.fx k h.sg h.sr, h.sg.fx k, fun n hn => (h.sr n hn).fx k, h.st.fx k⟩
end Go.Df.Iv
namespace Go.Proofs.YtincpmdldpakkaaDoor
open Go.RowKit Go.Df Go.Df.Iv Go.Df.Sp
attribute [local go_sem ↓] Go.wp_at_zero Go.wp_at_succ
def GetL (p : Vb) (N f go2 : Nat) (rw2 rc2 : Nat → Nat) (w : World) (T : Nat → Nat → Nat → D) (V : Nat → Nat → U) (Q : Prop) (e : Ending) (w' : World) : Prop :=
  ∃ b V', e = .returned (.bool b) ∧ Vw N f w' go2 rw2 rc2 V' ∧ Fx (RowO N rw2) (RowO N rw2) w w' ∧ Rv p T V V' b ∧ (b = false → Q)
set_option maxRecDepth 100000 in
set_option maxHeartbeats 40000000 in
theorem rlower_any {p : Vb} {K : Kn} {w0 : World} {N f go cN go2 cV cs : Nat} {mn : Int} {As : Option Addr} {rw rc rw2 rc2 : Nat → Nat} {T : Nat → Nat → Nat → D} {V : Nat → Nat → U} (w : World) (hR : Rin p K w0 N f go rw) (hlow : Below w0.heap.size w0 w) (hL : Ln p N f w (RowO N rw2) go rw rc T As cs) (hV : Vw N f w go2 rw2 rc2 V) (hbase : ∀ n, n < N → w0.heap.size ≤ rw2 n) :
    Calls Tryd.prog 35 #[.agg #[.slice K.A1 K.n1 K.c1, .slice K.A2 K.n2 K.c2, .int .i64 mn, .int .i64 (f : Nat), .slice K.A3 K.n3 K.c3, .slice K.A4 K.n4 K.c4, .slice (some ⟨go, 0, none⟩) N cN], .slice As N cs, .slice (some ⟨go2, 0, none⟩) N cV] w
      (GetL p N f go2 rw2 rc2 w T V (∀ k, k < p.es.length → (ge p.es k).k = 2 → ∀ q ∈ gl p.fl k, leV (V (ge p.es k).b.toNat q.o.toNat) (lv p T V k q))) := by
  have hf2 : f ≤ 1024 := by have h1 := hR.ok.f2; have h2 := hR.eF; omega
  have HR := Lib.hid hR
  have HO := Lib.hid hR.ok
  have HI := Lib.hid hR.inp
  have HFI := Lib.hid hR.fit
  have HLN := Lib.hid hL
  have HV := Lib.hid hV
  have HLOW := Lib.hid hlow
  have HEF : Hid (p.F.toNat = f) := by show _ = _; rw [hR.eF, Int.toNat_natCast]
  have HPF := Lib.hid hR.eF
  have HEN := Lib.hid hR.eN
  have HES := Lib.hid hR.inp.ed.1
  have hE8 : K.n2 ≤ 32768 := by have := (If.sup_parts hR.ok.sup).2.1; have := hR.inp.ed.1; omega
  have hbs : Hid (∀ x, RowO N rw2 x → w0.heap.size ≤ x) := fun x ⟨n, hn, e⟩ => by rw [e]; exact hbase n hn
  clear hR hlow hL hV hbase
  go_enter Tryd.func35, Tryd.ntmps35
  go_upto_region 1 with fail
  refine wp_named (fun W => ∃ b0, w.heap.size = b0 ∧ Blk W b0 [.slice K.A1 K.n1 K.c1, .slice K.A2 K.n2 K.c2, .int .i64 mn, .int .i64 (f : Nat), .slice K.A3 K.n3 K.c3, .slice K.A4 K.n4 K.c4, .slice (some ⟨go, 0, none⟩) N cN] ∧ Below w.heap.size w W) ⟨_, rfl, ?_, ?_⟩ ?_
  · exact Blk.new _ _ _ _ (by first | rfl | simp)
  · go_grown
  rintro W ⟨b0, e0, B0, hB⟩
  rw [e0]
  have G0 : w.heap.size ≤ b0 := by omega
  clear e0
  have ⟨L0, C0, F0⟩ := B0
  have hkW : Kept [] w W := (Kept.refl _ _).call hB
  have VW := Lib.hid (HV.out.keep hkW)
  have HLW := Lib.hid (HLOW.out.trans (hkW.toBelow.mono HLOW.out.size))
  have SB : Hid (SafeB (RowO N rw2) W b0) := ⟨L0, fun ⟨n, hn, e⟩ => by have h1 := HV.out.lt n hn; omega⟩
  have HB0 := Lib.hid B0
  have Fw : Hid (Fx (RowO N rw2) (RowO N rw2) w W) := Fx.same hkW
  have LNW := Lib.hid (HLN.out.fx Fw.out)
  go_wp2_with fail
  go_loopw [7, 8] (fun s7 s8 wr => ∃ (k : Nat) (d1 : Bool) (V1 : Nat → Nat → U), k ≤ K.n2 ∧ s7 = .bool d1 ∧ s8 = .int .i64 k ∧ Hid (Vw N f wr go2 rw2 rc2 V1) ∧ Hid (Fx (RowO N rw2) (RowO N rw2) W wr) ∧ Hid (Rv p T V V1 d1) ∧ Hid (d1 = false → ∀ j, j < k → (ge p.es j).k = 2 → ∀ q ∈ gl p.fl j, leV (V (ge p.es j).b.toNat q.o.toNat) (lv p T V j q))) (fun _ s8 _ => K.n2 - (intOf s8).toNat)
  case atStart => exact ⟨0, false, V, Nat.zero_le _, rfl, rfl, VW, Lib.hid (Fx.refl _ _), Lib.hid (Rv.refl p T V), Lib.hid (fun _ j hj => absurd hj (Nat.not_lt_zero _))⟩
  case round =>
  rename World => wr
  clear VW C0 F0
  obtain ⟨k, d1, V1, hk, rfl, rfl, VR, FR, RS, DN⟩ := hrel
  have ⟨L0r, C0r, F0r⟩ := SB.out.blk FR.out HB0.out
  by_cases hlt : k < K.n2
  case neg =>
    obtain rfl : k = K.n2 := by omega
    have HRES : Hid (d1 = false → ∀ j, j < p.es.length → (ge p.es j).k = 2 → ∀ q ∈ gl p.fl j, leV (V (ge p.es j).b.toNat q.o.toNat) (lv p T V j q)) := fun hb j hj => DN.out hb j (by rw [← HES.out]; exact hj)
    go_wp2_with fail
    go_ret
    exact ⟨d1, V1, rfl, VR.out, Fw.out.trans FR.out, RS.out, HRES.out⟩
  have hk1 : (k : Int) < (K.n2 : Int) := by omega
  have hke : k < p.es.length := by rw [HES.out]; exact hlt
  have HLR := Lib.hid (FR.out.below HLW.out hbs.out)
  obtain ⟨b2, o2, ea, eb, e2, hl20, hl2, hk2, hea, heb, hea2, heb2, r2a, r2b, r2c, r2d⟩ := HI.out.edge HO.out HLR.out hke
  obtain ⟨ek, hek⟩ : ∃ x, (ge p.es k).k = x := ⟨_, rfl⟩
  obtain ⟨ec, hec⟩ : ∃ x, (ge p.es k).c = x := ⟨_, rfl⟩
  rw [hek] at r2c
  rw [hec] at r2d
  have heaN : ea < N := by rw [HEN.out]; exact hea2
  have hebN : eb < N := by rw [HEN.out]; exact heb2
  have HEA := Lib.hid hea
  have HEB := Lib.hid heb
  have HEK := Lib.hid hek
  clear hea heb hek hec
  go_upto_region 6 with fail
  refine wp_named (fun Uw => ∃ g, wr.heap.size = g ∧ Blk Uw g [.int .i64 ea, .int .i64 eb, .int .i64 ek, .int .i64 ec] ∧ Kept [] wr Uw) ⟨_, rfl, Blk.new _ _ _ _ rfl, (Kept.refl _ _).alloc _⟩ ?_
  rintro Uw ⟨ge_, eg, Bg, hkU⟩
  rw [eg]
  have VU := Lib.hid (VR.out.keep hkU)
  have FU := Lib.hid (FR.out.trans (Fx.same (O := RowO N rw2) hkU))
  have SGE : Hid (SafeB (RowO N rw2) Uw ge_) := ⟨Bg.1, fun ⟨n, hn, e⟩ => by have h1 := VR.out.lt n hn; omega⟩
  have HGE := Lib.hid Bg
  have ⟨LgU, CgU, FgU⟩ := Bg
  clear C0r F0r r2a r2b r2c r2d hl2 e2 eg Bg
  have ⟨L0U, C0U, F0U⟩ := SB.out.blk FU.out HB0.out
  by_cases k2 : ek = 2
  case neg =>
    have z1 : (ek != 2) = true := by simpa using k2
    have HE : Hid (d1 = false → ∀ j, j < k + 1 → (ge p.es j).k = 2 → ∀ q ∈ gl p.fl j, leV (V (ge p.es j).b.toNat q.o.toNat) (lv p T V j q)) := Lib.hid (fun hb j hj h2 => by
      rcases Nat.lt_or_ge j k with h1 | h1
      · exact DN.out hb j h1 h2
      · obtain rfl : j = k := by omega
        rw [HEK.out] at h2
        exact absurd h2 k2)
    clear k2
    go_wp2_with fail
    exact ⟨⟨k + 1, d1, V1, by omega, rfl, by go_num, VU, FU, RS, HE⟩, by simp [intOf]; omega⟩
  subst k2
  go_wp2_with fail
  go_loopw [7, 10] (fun s7 s10 wq => ∃ (i : Nat) (d2 : Bool) (V2 : Nat → Nat → U), i ≤ (gl p.fl k).length ∧ s7 = .bool d2 ∧ s10 = .int .i64 i ∧ Hid (Vw N f wq go2 rw2 rc2 V2) ∧ Hid (Fx (RowO N rw2) (RowO N rw2) W wq) ∧ Hid (Fx (RowO N rw2) (RowO N rw2) Uw wq) ∧ Hid (Rv p T V V2 d2) ∧ Hid (d2 = false → d1 = false) ∧ Hid (d2 = false → ∀ j, j < i → ∀ q, (gl p.fl k)[j]? = some q → leV (V eb q.o.toNat) (lv p T V k q))) (fun _ s10 _ => (gl p.fl k).length - (intOf s10).toNat)
  case atStart => exact ⟨0, d1, V1, Nat.zero_le _, rfl, rfl, VU, FU, Lib.hid (Fx.refl _ _), RS, Lib.hid (fun h => h), Lib.hid (fun _ j hj => absurd hj (Nat.not_lt_zero _))⟩
  case round =>
  rename World => wq
  clear VU VR FR FU RS C0U F0U CgU FgU
  obtain ⟨i, d2, V2, hi, rfl, rfl, VQ, FQ, FQU, RQ, HB1, DQ⟩ := hrel
  have B0q := SB.out.blk FQ.out HB0.out
  have ⟨L0q, C0q, F0q⟩ := B0q
  have Beq := SGE.out.blk FQU.out HGE.out
  have ⟨Leq, Ceq, Feq⟩ := Beq
  have HLQ := Lib.hid (FQ.out.below HLW.out hbs.out)
  obtain ⟨b3, o3, Ai, ni, ci, e3, hl30, hl3, hk3, r3, hci, hxps, hni, hni2⟩ := HI.out.flow HO.out HLQ.out hke
  have hlen : (gl p.fl k).length = ni := hxps.1
  have HPR := Lib.hid hxps
  have HLEN := Lib.hid hlen
  rw [hlen] at hi
  clear hxps hlen
  by_cases hlti : i < ni
  case neg =>
    obtain rfl : i = ni := by omega
    have HRES : Hid (d2 = false → ∀ j, j < k + 1 → (ge p.es j).k = 2 → ∀ q ∈ gl p.fl j, leV (V (ge p.es j).b.toNat q.o.toNat) (lv p T V j q)) := fun hb j hj h2 q hq => by
      rcases Nat.lt_or_ge j k with h1 | h1
      · exact DN.out (HB1.out hb) j h1 h2 q hq
      · obtain rfl : j = k := by omega
        rw [HEB.out, Int.toNat_natCast]
        obtain ⟨j', hj', rfl⟩ := List.getElem_of_mem hq
        exact DQ.out hb j' (by rw [← HLEN.out]; exact hj') _ (List.getElem?_eq_getElem hj')
    go_wp2_with fail
    exact ⟨⟨k + 1, d2, V2, by omega, rfl, by go_num, VQ, FQ, RQ, HRES⟩, by simp [intOf]; omega⟩
  obtain ⟨b5, o5, q, qi, qo, rfl, hl50, hl5, hjq, hqm, hqi, hqo, hqiF, hqoF, r50, r51, r52, r53, r54⟩ := xps_at HO.out HLQ.out (l := gl p.fl k) (fun q hq => hq) HPR.out hlti
  have hi1 : (i : Int) < (ni : Int) := by omega
  have HXQ : Hid ((xd q).1 = ⟨q.k, q.b, q.c⟩) := xd_of HO.out HFI.out hqm
  obtain ⟨qk, hqk⟩ : ∃ v, q.k = v := ⟨_, rfl⟩
  obtain ⟨qb, hqb⟩ : ∃ v, q.b = v := ⟨_, rfl⟩
  obtain ⟨qc, hqc⟩ : ∃ v, q.c = v := ⟨_, rfl⟩
  have HXE : Hid ((xd q).1 = ⟨qk, qb, qc⟩) := by rw [← hqk, ← hqb, ← hqc]; exact HXQ
  rw [hqk] at r52
  rw [hqb] at r53
  rw [hqc] at r54
  have HJQ := Lib.hid hjq
  have HQM := Lib.hid hqm
  have HQO := Lib.hid hqo
  have HQI := Lib.hid hqi
  rw [HEF.out] at hqiF hqoF
  clear hjq hqm hqo hqi hqk hqb hqc HXQ
  go_upto_region 11 with fail
  refine wp_named (fun Y => ∃ g, wq.heap.size = g ∧ Blk Y g [.int .i64 (qi : Nat), .int .i64 (qo : Nat), .int .i64 qk, .int .i64 qb, .int .i64 qc] ∧ Kept [] wq Y) ⟨_, rfl, Blk.new _ _ _ _ rfl, (Kept.refl _ _).alloc _⟩ ?_
  rintro Y ⟨gq, eq_, Bq, hkY⟩
  rw [eq_]
  have VY := Lib.hid (VQ.out.keep hkY)
  have FY := Lib.hid (FQ.out.trans (Fx.same (O := RowO N rw2) hkY))
  have FYU := Lib.hid (FQU.out.trans (Fx.same (O := RowO N rw2) hkY))
  have LNY := Lib.hid (LNW.out.fx FY.out)
  have ⟨LqY, CqY, FqY⟩ := Bq
  have HBQ := Lib.hid Bq
  have B0Y := Lib.hid (hkY.blk (by simp) B0q)
  have BeY := Lib.hid (hkY.blk (by simp) Beq)
  have ⟨L0Y, C0Y, F0Y⟩ := B0Y.out
  have ⟨LeY, CeY, FeY⟩ := BeY.out
  have hgq : wq.heap.size ≤ gq := by omega
  clear C0q F0q Ceq Feq r3 r50 r51 r52 r53 r54 e3 hl3 hl5 eq_ Bq B0q Beq
  obtain ⟨s0, hs0⟩ : ∃ v, (solV p T V2 ea qi).1.k = v := ⟨_, rfl⟩
  obtain ⟨s1, hs1⟩ : ∃ v, (solV p T V2 ea qi).1.n = v := ⟨_, rfl⟩
  have eS : (solV p T V2 ea qi).1 = ⟨s0, s1⟩ := by rw [← hs0, ← hs1]
  have HLV : Hid (lv p T V2 k q = app (xd q) (solV p T V2 ea qi)) := by show _ = _; unfold lv; rw [HEA.out, HQI.out, Int.toNat_natCast, Int.toNat_natCast]
  obtain ⟨a0, ha0⟩ : ∃ v, (app (xd q) (solV p T V2 ea qi)).1.k = v := ⟨_, rfl⟩
  obtain ⟨a1, ha1⟩ : ∃ v, (app (xd q) (solV p T V2 ea qi)).1.n = v := ⟨_, rfl⟩
  have eA : (app (xd q) (solV p T V2 ea qi)).1 = ⟨a0, a1⟩ := by rw [← ha0, ← ha1]
  obtain ⟨o0, ho0⟩ : ∃ v, (V2 eb qo).1.k = v := ⟨_, rfl⟩
  obtain ⟨o1, ho1⟩ : ∃ v, (V2 eb qo).1.n = v := ⟨_, rfl⟩
  have eO : (V2 eb qo).1 = ⟨o0, o1⟩ := by rw [← ho0, ← ho1]
  obtain ⟨z0, hz0⟩ : ∃ v, (Iv.meetV (V2 eb qo) (app (xd q) (solV p T V2 ea qi))).1.k = v := ⟨_, rfl⟩
  obtain ⟨z1, hz1⟩ : ∃ v, (Iv.meetV (V2 eb qo) (app (xd q) (solV p T V2 ea qi))).1.n = v := ⟨_, rfl⟩
  have eZ : (Iv.meetV (V2 eb qo) (app (xd q) (solV p T V2 ea qi))).1 = ⟨z0, z1⟩ := by rw [← hz0, ← hz1]
  have HEZ0 := Lib.hid hz0
  have HEZ1 := Lib.hid hz1
  have HDEC : Hid (Iv.meetV (V2 eb qo) (app (xd q) (solV p T V2 ea qi)) = V2 eb qo ↔ (z0 = o0 ∧ z1 = o1)) := by
    show _ ↔ _
    constructor
    · intro h
      rw [h, eO] at eZ
      injection eZ with e1 e2
      exact ⟨e1.symm, e2.symm⟩
    · rintro ⟨rfl, rfl⟩
      exact Subtype.ext (eZ.trans eO.symm)
  have HVAL : Hid (∀ w9, Kept [] Y w9 → Calls Tryd.prog 36 #[.agg #[.slice K.A1 K.n1 K.c1, .slice K.A2 K.n2 K.c2, .int .i64 mn, .int .i64 (f : Nat), .slice K.A3 K.n3 K.c3, .slice K.A4 K.n4 K.c4, .slice (some ⟨go, 0, none⟩) N cN], .slice As N cs, .slice (some ⟨go2, 0, none⟩) N cV, .int .i64 ea, .int .i64 (qi : Nat)] w9 fun e w' => e = .returned (.agg #[.int .i64 s0, .int .i64 s1]) ∧ Below w9.heap.size w9 w') := fun w9 hk9 => rvalue_any w9 ea qi (LNY.out.tw.keep hk9) (VY.out.keep hk9) (LNY.out.st.1.1.kept hk9) HEN.out HPF.out heaN hqiF hf2 eS
  have HAPP : Hid (∀ w9, Calls Tryd.prog 75 #[.agg #[.int .i64 qk, .int .i64 qb, .int .i64 qc], .agg #[.int .i64 s0, .int .i64 s1]] w9 fun e w' => e = .returned (.agg #[.int .i64 a0, .int .i64 a1]) ∧ Below w9.heap.size w9 w') := fun w9 => rappU_any _ _ _ _ _ _ _ _ _ HXE.out eS eA w9
  have HMEE : Hid (∀ w9, Calls Tryd.prog 76 #[.agg #[.int .i64 o0, .int .i64 o1], .agg #[.int .i64 a0, .int .i64 a1]] w9 fun e w' => e = .returned (.agg #[.int .i64 z0, .int .i64 z1]) ∧ Below w9.heap.size w9 w') := fun w9 => rmeetU_any _ _ _ _ _ _ _ _ eO eA eZ w9
  have hrow2 := VY.out.row eb hebN
  have hcel2 := VY.out.cell eb qo hebN hqoF
  have hfr0 := VY.out.fr eb (qo * 2) hebN
  have hfr1 := VY.out.fr eb (qo * 2 + 1) hebN
  have hgl2 := VY.out.glt
  have hrl2 := VY.out.lt eb hebN
  rw [ho0, ho1] at hcel2
  obtain ⟨r2, hr2⟩ : ∃ r, rw2 eb = r := ⟨_, rfl⟩
  obtain ⟨x2, hx2⟩ : ∃ r, rc2 eb = r := ⟨_, rfl⟩
  rw [hr2, hx2] at hrow2
  rw [hr2] at hcel2 hfr0 hfr1 hrl2
  have HR2 := Lib.hid hr2
  obtain ⟨hcA, hcB⟩ := hcel2
  have heb1 : (eb : Int) < (N : Int) := by omega
  have hqo1 : (qo : Int) < (f : Int) := by omega
  have hrq : r2 ≠ gq := by have h1 := VQ.out.lt eb hebN; rw [HR2.out] at h1; omega
  clear hs0 hs1 eS ha0 ha1 eA ho0 ho1 eO hz0 hz1 eZ hr2 hx2
  go_cut [12] (fun s9 wx => ∃ g : Nat, s9 = .pointer (some ⟨g, 0, none⟩) ∧ Blk wx g [.int .i64 a0, .int .i64 a1] ∧ Kept [] Y wx ∧ Y.heap.size ≤ g)
  case first =>
    go_region_held3 (fun w' => SX0 Y w') (exact kp0) (first | (go_at_call 36; refine (HVAL.out _ (by (exact kpt0))).mono ?_; rintro e w4 ⟨rfl, hb4⟩; obtain ⟨hc4, hf4, hg4⟩ := bcell hb4; have hz4 := hb4.size; try simp at hz4) | (go_at_call 75; refine (HAPP.out _).mono ?_; rintro e w5 ⟨rfl, hb5⟩; obtain ⟨hc5, hf5, hg5⟩ := bcell hb5; have hz5 := hb5.size; (try simp at hz5); (try have hy5 := Nat.lt_of_lt_of_le hz4 hz5)))
    all_goals
      go_wp2_with fail
      go_meet
      refine ⟨_, rfl, ?_, ?_, ?_⟩
      · (exact kpb)
      · (exact kpt0)
      · first | (simp; done) | omega | (simp; omega)
  case rest =>
  obtain ⟨gv, rfl, Bv, hkc, hgv⟩ := hcut
  obtain ⟨Z, hZ⟩ : ∃ V, V = wc := ⟨_, rfl⟩
  subst hZ
  have ⟨LvZ, CvZ, FvZ⟩ := Bv
  have HBV := Lib.hid Bv
  have BeZ := Lib.hid (hkc.blk (by simp) BeY.out)
  have BqZ := Lib.hid (hkc.blk (by simp) HBQ.out)
  have ⟨LeZ, CeZ, FeZ⟩ := BeZ.out
  have ⟨LqZ, CqZ, FqZ⟩ := BqZ.out
  have hrowZ := (hkc.cell go2 _ hgl2 (by simp)).trans hrow2
  have hcAZ := (hkc.cell r2 _ hrl2 (by simp)).trans hcA
  have hcBZ := (hkc.cell r2 _ hrl2 (by simp)).trans hcB
  have l2Z : go2 < Z.heap.size := Nat.lt_of_lt_of_le hgl2 hkc.size
  have lrZ : r2 < Z.heap.size := Nat.lt_of_lt_of_le hrl2 hkc.size
  clear C0Y F0Y CeY FeY CqY FqY hrow2 hcA hcB Bv
  go_upto_region 12 with fail
  go_cut [13] (fun s9 wx => ∃ g : Nat, s9 = .pointer (some ⟨g, 0, none⟩) ∧ Blk wx g [.int .i64 z0, .int .i64 z1] ∧ Kept [] Z wx ∧ Z.heap.size ≤ g)
  case first =>
    go_region_held3 (fun w' => SX0 Z w') (exact kp0) (first | (go_at_call 76; refine (HMEE.out _).mono ?_; rintro e w4 ⟨rfl, hb4⟩; obtain ⟨hc4, hf4, hg4⟩ := bcell hb4; have hz4 := hb4.size; try simp at hz4))
    all_goals
      go_wp2_with fail
      go_meet
      refine ⟨_, rfl, ?_, ?_, ?_⟩
      · (exact kpb)
      · (exact kpt0)
      · first | (simp; done) | omega | (simp; omega)
  case rest =>
  obtain ⟨gn_, rfl, Bn, hkc2, hgn⟩ := hcut
  obtain ⟨X, hX⟩ : ∃ V, V = wc := ⟨_, rfl⟩
  subst hX
  have ⟨LnX, CnX, FnX⟩ := Bn
  have ⟨LeX, CeX, FeX⟩ := hkc2.blk (by simp) BeZ.out
  have ⟨LqX, CqX, FqX⟩ := hkc2.blk (by simp) BqZ.out
  have hkYX : Kept [] Y X := keptTrans hkc hkc2
  have VX := Lib.hid (VY.out.keep hkYX)
  have FX := Lib.hid (FY.out.trans (Fx.same (O := RowO N rw2) hkYX))
  have FXU := Lib.hid (FYU.out.trans (Fx.same (O := RowO N rw2) hkYX))
  have hrowX := (hkc2.cell go2 _ l2Z (by simp)).trans hrowZ
  have hcAX := (hkc2.cell r2 _ lrZ (by simp)).trans hcAZ
  have hcBX := (hkc2.cell r2 _ lrZ (by simp)).trans hcBZ
  have fA := (hkYX.frozen r2 _ hrl2 (by simp)).trans hfr0
  have fB := (hkYX.frozen r2 _ hrl2 (by simp)).trans hfr1
  have l2X : go2 < X.heap.size := Nat.lt_of_lt_of_le l2Z hkc2.size
  have lrX : r2 < X.heap.size := Nat.lt_of_lt_of_le lrZ hkc2.size
  clear CvZ FvZ CeZ FeZ CqZ FqZ hrowZ hcAZ hcBZ hfr0 hfr1
  have HNX : Hid (∀ bb : Bool, (bb = false → leV (V2 eb qo) (app (xd q) (solV p T V2 ea qi))) → (d2 || bb) = false → ∀ j, j < i + 1 → ∀ q', (gl p.fl k)[j]? = some q' → leV (V eb q'.o.toNat) (lv p T V k q')) := fun bb hq hb j hj q' hq' => by
    rw [Bool.or_eq_false_iff] at hb
    rcases Nat.lt_or_ge j i with h1 | h1
    · exact DQ.out hb.1 j h1 q' hq'
    · obtain rfl : j = i := by omega
      rw [HJQ.out] at hq'
      injection hq' with hq'
      have h2 := hq hb.2
      rw [← HLV.out, RQ.out.same hb.1] at h2
      rw [← hq', HQO.out, Int.toNat_natCast]
      exact h2
  go_upto_region 13 with fail
  by_cases hsame : Iv.meetV (V2 eb qo) (app (xd q) (solV p T V2 ea qi)) = V2 eb qo
  · obtain ⟨rfl, rfl⟩ := HDEC.out.1 hsame
    have HE : Hid (d2 = false → ∀ j, j < i + 1 → ∀ q', (gl p.fl k)[j]? = some q' → leV (V eb q'.o.toNat) (lv p T V k q')) := Lib.hid (fun hb => HNX.out false (fun _ => meetV_eq_iff.1 hsame) (by rw [hb]; rfl))
    clear hsame HDEC HEZ0 HEZ1
    go_quiet (fail)
    go_wp2_with fail
    exact ⟨⟨i + 1, d2, V2, by rw [HLEN.out]; omega, rfl, by go_num, Lib.hid (VX.out.keep ((Kept.refl [] X).drewN _)), Lib.hid (FX.out.trans (Fx.same (O := RowO N rw2) ((Kept.refl [] X).drewN _))), Lib.hid (FXU.out.trans (Fx.same (O := RowO N rw2) ((Kept.refl [] X).drewN _))), RQ, HB1, HE⟩, by simp [intOf]; rw [HLEN.out]; omega⟩
  · have hne : ¬ (z0 = o0 ∧ z1 = o1) := fun h => hsame (HDEC.out.2 h)
    have HRS : Hid (Rv p T V2 (vput V2 eb qo (Iv.meetV (V2 eb qo) (app (xd q) (solV p T V2 ea qi)))) true) := by
      have h9 := Rv.low (p := p) (T := T) (V := V2) (n := eb) (a := qo) (x := app (xd q) (solV p T V2 ea qi)) heb2 (by rw [HEF.out]; exact hqoF) (fun Y hY hle => by
        have h7 := low_snd (T := T) (V := V2) hY hle hke HEK.out HQM.out
        rw [HLV.out, HEB.out, HQO.out, Int.toNat_natCast, Int.toNat_natCast] at h7
        exact h7)
      have e9 : (!decide (Iv.meetV (V2 eb qo) (app (xd q) (solV p T V2 ea qi)) = V2 eb qo)) = true := by simpa using hsame
      rw [e9] at h9
      exact h9
    clear hsame
    go_cut [85] (fun s9 wx => s9 = .bool true ∧ Kept [] X wx)
    case first =>
      by_cases e0 : z0 = o0
      · have h1 : (z1 == o1) = false := by
          have h9 : ¬ z1 = o1 := fun h => hne ⟨e0, h⟩
          simpa using h9
        subst e0
        clear hne HDEC HEZ0 HEZ1
        go_quiet (fail)
        go_wp2_with fail
        go_meet
        exact ⟨rfl, (Kept.refl [] X).drewN _⟩
      · have h0 : (z0 == o0) = false := by simpa using e0
        clear hne e0
        go_quiet (fail)
        go_wp2_with fail
        go_meet
        exact ⟨rfl, (Kept.refl [] X).drewN _⟩
    case rest =>
    obtain ⟨rfl, hkc3⟩ := hcut
    obtain ⟨Q, hQ⟩ : ∃ V, V = wc := ⟨_, rfl⟩
    subst hQ
    have ⟨LnQ, CnQ, FnQ⟩ := hkc3.blk (by simp) Bn
    have ⟨LeQ, CeQ, FeQ⟩ := (keptTrans hkc2 hkc3).blk (by simp) BeZ.out
    have ⟨LqQ, CqQ, FqQ⟩ := (keptTrans hkc2 hkc3).blk (by simp) BqZ.out
    have VQ9 := Lib.hid (VX.out.keep hkc3)
    have FQ9 := Lib.hid (FX.out.trans (Fx.same (O := RowO N rw2) hkc3))
    have FQU9 := Lib.hid (FXU.out.trans (Fx.same (O := RowO N rw2) hkc3))
    have hrowQ := (hkc3.cell go2 _ l2X (by simp)).trans hrowX
    have hcAQ := (hkc3.cell r2 _ lrX (by simp)).trans hcAX
    have hcBQ := (hkc3.cell r2 _ lrX (by simp)).trans hcBX
    have fAQ := (hkc3.frozen r2 _ lrX (by simp)).trans fA
    have fBQ := (hkc3.frozen r2 _ lrX (by simp)).trans fB
    have l2Q : go2 < Q.heap.size := Nat.lt_of_lt_of_le l2X hkc3.size
    have lrQ : r2 < Q.heap.size := Nat.lt_of_lt_of_le lrX hkc3.size
    clear CnX FnX CeX FeX CqX FqX hrowX hcAX hcBX fA fB hne
    go_upto_region 14 with fail
    refine wp_region_E 9 (fun w' => SX0 Q w') (by kernel_rfl) (by (exact kp0)) (fun hHeld => ?_)
    refine WE_tk 0 ?_
    refine WE_tk 1 ?_
    refine WE_tk 2 ?_
    refine WE_tk 3 ?_
    refine WE_tk 4 ?_
    refine WE_tk 5 ?_
    refine WE_tk 6 ?_
    refine WE_tk 7 ?_
    refine WE_tk 8 ?_
    refine WE_last rfl (by kernel_rfl) (fun K hK => ?_)
    go_simp
    refine hK.out _ _ ?_
    clear hK K
    refine act_named (fun M => Vw N f M go2 rw2 rc2 (vput V2 eb qo (Iv.meetV (V2 eb qo) (app (xd q) (solV p T V2 ea qi)))) ∧ Kept [rw2 eb] Q M) ⟨by
      have h9 := (VQ9.out.keep (Kept.refl _ _).drew).put hebN hqoF (Iv.meetV (V2 eb qo) (app (xd q) (solV p T V2 ea qi))) (i := qo * 2) rfl
      rw [HR2.out, HEZ0.out, HEZ1.out] at h9
      exact h9, by rw [HR2.out]; exact (((Kept.refl [r2] Q).drew.set r2 _ _ (.inl (by simp))).set r2 _ _ (.inl (by simp)))⟩ ?_
    rintro M ⟨VM, hkM⟩
    have HVM := Lib.hid VM
    have FM := Lib.hid (FQ9.out.trans (RowO.fx hebN hkM))
    have FMU := Lib.hid (FQU9.out.trans (RowO.fx hebN hkM))
    have HRT : Hid (Rv p T V (vput V2 eb qo (Iv.meetV (V2 eb qo) (app (xd q) (solV p T V2 ea qi)))) true) := Lib.hid (by have h9 := RQ.out.trans HRS.out; rw [Bool.or_true] at h9; exact h9)
    clear VM hkM CnQ FnQ CeQ FeQ CqQ FqQ hrowQ hcAQ hcBQ fAQ fBQ
    go_wp2_with fail
    exact ⟨⟨i + 1, true, _, by rw [HLEN.out]; omega, rfl, by go_num, HVM, FM, FMU, HRT, Lib.hid (fun h => by cases h), Lib.hid (fun h => by cases h)⟩, by simp [intOf]; rw [HLEN.out]; omega⟩
end Go.Proofs.YtincpmdldpakkaaDoor
