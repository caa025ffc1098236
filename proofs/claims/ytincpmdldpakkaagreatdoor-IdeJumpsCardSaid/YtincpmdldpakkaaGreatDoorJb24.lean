/- Texts: Cx Cb Aa Ab Ak. -/
import Derived.Test.YtincpmdldpakkaaGreatDoorJb23
import Derived.Test.YtincpmdldpakkaaGreatDoorJb20
import Derived.Test.YtincpmdldpakkaaGreatDoorJb10
import Derived.Test.YtincpmdldpakkaaGreatDoorJb21
import Derived.Test.YtincpmdldpakkaaGreatDoorJb09
namespace Go.Proofs.YtincpmdldpakkaaGreatDoor
open Go.RowKit Go.Df Go.Df.Iv Go.Df.Sp
attribute [local go_sem ↓] Go.wp_at_zero Go.wp_at_succ
set_option maxRecDepth 100000 in
set_option maxHeartbeats 40000000 in
theorem rseeded_any {p : Vb} {K : Kn} {w0 : World} {N f go cN : Nat} {mn : Int} {rw rc : Nat → Nat} {T : Nat → Nat → Nat → D} (w : World) (hR : Rin p K w0 N f go rw) (hlow : Below w0.heap.size w0 w) (hT : Tw p N f w go rw rc T) (hn4 : K.n4 ≤ 1000000) :
   Calls Tryz.prog 104 #[.agg #[.slice K.A1 K.n1 K.c1, .slice K.A2 K.n2 K.c2, .int .i64 mn, .int .i64 (f : Nat), .slice K.A3 K.n3 K.c3, .slice K.A4 K.n4 K.c4, .slice (some ⟨go, 0, none⟩) N cN]] w
     (GetR p N f go rw rc w T (∀ u ∈ p.sd, T u.n.toNat 0 0 ≠ top → le (T u.n.toNat 0 u.f.toNat) (sx u))) := by
 have hf2 : f ≤ 1024 := by have h1 := hR.ok.f2; have h2 := hR.eF; omega
 have hf1 : 0 < f := by have h1 := hR.ok.f1; have h2 := hR.eF; omega
 have HR := Lib.hid hR
 have HO := Lib.hid hR.ok
 have HI := Lib.hid hR.inp
 have HFI := Lib.hid hR.fit
 have HT := Lib.hid hT
 have HLOW := Lib.hid hlow
 have HEF : Hid (p.F.toNat = f) := by show _ = _; rw [hR.eF, Int.toNat_natCast]
 have HEN := Lib.hid hR.eN
 have HSL := Lib.hid hR.inp.sd.1
 clear hR hlow hT
 go_enter Tryz.func104, Tryz.ntmps104
 go_upto_region 1 with fail
 refine wp_named (fun W => ∃ b0, w.heap.size = b0 ∧ Blk W b0 [.slice K.A1 K.n1 K.c1, .slice K.A2 K.n2 K.c2, .int .i64 mn, .int .i64 (f : Nat), .slice K.A3 K.n3 K.c3, .slice K.A4 K.n4 K.c4, .slice (some ⟨go, 0, none⟩) N cN] ∧ Below w.heap.size w W) ⟨_, rfl, ?_, ?_⟩ ?_
 · exact kbn
 · go_grown
 rintro W ⟨b0, e0, B0, hB⟩
 rw [e0]
 have G0 : w.heap.size ≤ b0 := by omega
 clear e0
 have ⟨L0, C0, F0⟩ := B0
 have hkW : Kept [] w W := (Kept.refl _ _).call hB
 have TW := Lib.hid (HT.out.keep hkW)
 have HLW := Lib.hid (HLOW.out.trans (hkW.toBelow.mono HLOW.out.size))
 have SB : Hid (SafeB (RowO N rw) W b0) := ⟨L0, fun ⟨n, hn, e⟩ => by have h1 := HT.out.lt n hn; omega⟩
 have HB0 := Lib.hid B0
 have hbs : Hid (∀ x, RowO N rw x → w0.heap.size ≤ x) := fun x ⟨n, hn, e⟩ => by rw [e]; exact HR.out.base n hn
 have Fw : Hid (Fx (RowO N rw) (RowO N rw) w W) := Fx.same hkW
 go_wp2_with fail
 go_loopw [3, 4] (fun sm si wr => ∃ (i : Nat) (d1 : Bool) (T1 : Nat → Nat → Nat → D), i ≤ K.n4 ∧ sm = .bool d1 ∧ si = .int .i64 i ∧ Hid (Tw p N f wr go rw rc T1) ∧ Hid (Fx (RowO N rw) (RowO N rw) W wr) ∧ Hid (Rs p T T1 d1) ∧ Hid (d1 = false → ∀ j, j < i → ∀ u, p.sd[j]? = some u → T u.n.toNat 0 0 ≠ top → le (T u.n.toNat 0 u.f.toNat) (sx u))) (fun _ si _ => K.n4 - (intOf si).toNat)
 case atStart => exact ⟨0, false, T, Nat.zero_le _, rfl, rfl, TW, Lib.hid (Fx.refl _ _), Lib.hid (Rs.refl p T), Lib.hid (fun _ j hj => absurd hj (Nat.not_lt_zero _))⟩
 case round =>
 rename World => wr
 clear TW C0 F0
 obtain ⟨i, d1, T1, hi, rfl, rfl, TR, FR, RS, DN⟩ := hrel
 have ⟨L0r, C0r, F0r⟩ := SB.out.blk FR.out HB0.out
 by_cases hlt : i < K.n4
 case neg =>
   obtain rfl : i = K.n4 := by omega
   have HRES : Hid (d1 = false → ∀ u ∈ p.sd, T u.n.toNat 0 0 ≠ top → le (T u.n.toNat 0 u.f.toNat) (sx u)) := fun hb u hu => by
     obtain ⟨j, hj, rfl⟩ := List.getElem_of_mem hu
     exact DN.out hb j (by rw [← HSL.out]; exact hj) _ (List.getElem?_eq_getElem hj)
   go_wp2_with fail
   go_ret
   exact ⟨d1, T1, rfl, TR.out, Fw.out.trans FR.out, RS.out, HRES.out⟩
 have hi1 : (i : Int) < (K.n4 : Int) := by omega
 have his : i < p.sd.length := by rw [HSL.out]; exact hlt
 have HLR := Lib.hid (FR.out.below HLW.out hbs.out)
 obtain ⟨b4, o4, e4, hl40, hc40⟩ := HI.out.sd.2 (by omega)
 have hl4 : b4 < wr.heap.size := Nat.lt_of_lt_of_le hl40 HLR.out.size
 obtain ⟨u, hu⟩ : ∃ u, gs p.sd i = u := ⟨_, rfl⟩
 have hum : u ∈ p.sd := by rw [← hu]; exact gs_mem his
 have hju : p.sd[i]? = some u := by rw [← hu, gs_lt his]; exact List.getElem?_eq_getElem his
 have hsd := HO.out.seed hum
 obtain ⟨n, hn⟩ := Int.eq_ofNat_of_zero_le hsd.1
 obtain ⟨d, hd⟩ := Int.eq_ofNat_of_zero_le (show 0 ≤ u.f by omega)
 have hnN : n < N := by rw [HEN.out]; omega
 have hdF : d < f := by rw [← HEF.out]; omega
 obtain ⟨c1, c2, c3, c4⟩ := hc40 i hlt
 replace c1 := (HLR.out.cell (p := ⟨b4, _, none⟩) hl40).trans c1
 replace c2 := (HLR.out.cell (p := ⟨b4, _, none⟩) hl40).trans c2
 replace c3 := (HLR.out.cell (p := ⟨b4, _, none⟩) hl40).trans c3
 replace c4 := (HLR.out.cell (p := ⟨b4, _, none⟩) hl40).trans c4
 rw [hu] at c1 c2 c3 c4
 rw [hn] at c1
 rw [hd] at c2
 obtain ⟨uk, huk⟩ : ∃ v, u.k = v := ⟨_, rfl⟩
 obtain ⟨uv, huv⟩ : ∃ v, u.v = v := ⟨_, rfl⟩
 rw [huk] at c3
 rw [huv] at c4
 have HFU := Lib.hid (HFI.out.sd u hum)
 have HJU := Lib.hid hju
 have HUM := Lib.hid hum
 have HN := Lib.hid hn
 have HD := Lib.hid hd
 have HUK := Lib.hid huk
 have HUV := Lib.hid huv
 clear hu hum hju hsd hn hd huk huv hc40
 go_upto_region 6 with fail
 refine wp_named (fun V => ∃ g, wr.heap.size = g ∧ Blk V g [.int .i64 n, .int .i64 d, .int .i64 uk, .int .i64 uv] ∧ Kept [] wr V) ⟨_, rfl, Blk.new _ _ _ _ rfl, (Kept.refl _ _).alloc _⟩ ?_
 rintro U ⟨gs, eg, Bg, hkU⟩
 rw [eg]
 have TU := Lib.hid (TR.out.keep hkU)
 have FU := Lib.hid (FR.out.trans (Fx.same (O := RowO N rw) hkU))
 have hgs : wr.heap.size ≤ gs := by omega
 have ⟨Lg, Cg, Fg⟩ := Bg
 have HBg := Lib.hid Bg
 clear C0r F0r c1 c2 c3 c4 e4 eg Bg
 have B0U := SB.out.blk FU.out HB0.out
 have ⟨L0U, C0U, F0U⟩ := B0U
 obtain ⟨y0, hy0⟩ : ∃ v, (T1 n 0 0).1.k = v := ⟨_, rfl⟩
 obtain ⟨y1, hy1⟩ : ∃ v, (T1 n 0 0).1.b = v := ⟨_, rfl⟩
 obtain ⟨y2, hy2⟩ : ∃ v, (T1 n 0 0).1.c = v := ⟨_, rfl⟩
 have eY : (T1 n 0 0).1 = ⟨y0, y1, y2⟩ := by rw [← hy0, ← hy1, ← hy2]
 have HTT : Hid (T1 n 0 0 = top ↔ y0 = 0) := by show _ ↔ _; rw [← kind_top, eY]
 have HAT : Hid (∀ w9, Kept [] U w9 → Calls Tryz.prog 57 #[.agg #[.slice K.A1 K.n1 K.c1, .slice K.A2 K.n2 K.c2, .int .i64 mn, .int .i64 (f : Nat), .slice K.A3 K.n3 K.c3, .slice K.A4 K.n4 K.c4, .slice (some ⟨go, 0, none⟩) N cN], .int .i64 0, .int .i64 n, .int .i64 0] w9 fun e w' => e = .returned (.agg #[.int .i64 y0, .int .i64 y1, .int .i64 y2]) ∧ Below w9.heap.size w9 w') := fun w9 hk9 => rat_any w9 0 n 0 (TU.out.keep hk9) hnN hf1 hf1 hf2 eY
 have HNXT : Hid (∀ (bb : Bool) (T2 : Nat → Nat → Nat → D), (bb = false → T1 n 0 0 ≠ top → le (T1 n 0 d) (sx u)) → (d1 || bb) = false → ∀ j, j < i + 1 → ∀ u', p.sd[j]? = some u' → T u'.n.toNat 0 0 ≠ top → le (T u'.n.toNat 0 u'.f.toNat) (sx u')) := fun bb T2 hq hb j hj u' hu' => by
   rw [Bool.or_eq_false_iff] at hb
   rcases Nat.lt_or_ge j i with h1 | h1
   · exact DN.out hb.1 j h1 u' hu'
   · obtain rfl : j = i := by omega
     rw [HJU.out] at hu'
     injection hu' with hu'
     rw [← hu', HN.out, HD.out, Int.toNat_natCast, Int.toNat_natCast]
     have h2 := hq hb.2
     rw [RS.out.same hb.1] at h2
     exact h2
 clear hy0 hy1 hy2 eY
 have hfd : ∀ (x0 x1 x2 : Value) (w : World), (Instr.field 71 (.agg #[x0, x1, x2]) 0).run Tryz.prog w = .ok x0 w := fun _ _ _ _ => by kernel_rfl
 by_cases ht0 : y0 = 0
 · have HE : Hid (d1 = false → ∀ j, j < i + 1 → ∀ u', p.sd[j]? = some u' → T u'.n.toNat 0 0 ≠ top → le (T u'.n.toNat 0 u'.f.toNat) (sx u')) := fun hb => HNXT.out false T1 (fun _ h9 => absurd (HTT.out.2 ht0) h9) (by rw [hb]; rfl)
   subst ht0
   go_wp2_with (go_at_call 57; refine (HAT.out _ (by (exact kpt0))).mono ?_; rintro e w4 ⟨rfl, hb4⟩; have hk4 : Kept [] U w4 := Kept.call (by (exact kpt0)) hb4)
   exact ⟨⟨i + 1, d1, T1, by omega, rfl, by go_num, Lib.hid (TU.out.keep hk4), Lib.hid (FU.out.trans (Fx.same (O := RowO N rw) hk4)), RS, HE⟩, by simp [intOf]; omega⟩
 have hy0n : (y0 == 0) = false := by simpa using ht0
 have HTN : Hid (T1 n 0 0 ≠ top) := fun h => ht0 (HTT.out.1 h)
 clear ht0
 go_upto_region 8 with (go_at_call 57; refine (HAT.out _ (by (exact kpt0))).mono ?_; rintro e w4 ⟨rfl, hb4⟩; have hk4 : Kept [] U w4 := Kept.call (by (exact kpt0)) hb4)
 refine wp_named (fun V => ∃ g, w4.heap.size = g ∧ Blk V g [.int .i64 0, .int .i64 0, .int .i64 0] ∧ Kept [] w4 V) ⟨_, rfl, Blk.new _ _ _ _ rfl, (Kept.refl _ _).alloc _⟩ ?_
 rintro V ⟨gx, ex, Bx, hkV⟩
 rw [ex]
 have hkUV : Kept [] U V := keptTrans hk4 hkV
 have TV := Lib.hid (TU.out.keep hkUV)
 have FV := Lib.hid (FU.out.trans (Fx.same (O := RowO N rw) hkUV))
 have ⟨Lx, Cx, Fx_⟩ := Bx
 have HBx := Lib.hid Bx
 have hgx : U.heap.size ≤ gx := by have := hk4.size; omega
 have Bgs := Lib.hid (hkUV.blk (by simp) HBg.out)
 have B0V := Lib.hid (hkUV.blk (by simp) B0U)
 have ⟨LgV, CgV, FgV⟩ := Bgs.out
 have ⟨L0V, C0V, F0V⟩ := B0V.out
 have h0x : b0 ∉ [gx] := by simp; omega
 have hsx : gs ∉ [gx] := by simp; omega
 have hrx : ∀ m, m < N → rw m ∉ [gx] := fun m hm => by have h1 := TU.out.lt m hm; simp; omega
 have hgox : go ∉ [gx] := by have h1 := TU.out.glt; simp; omega
 have HFXX : Hid (∀ Z, Kept [gx] V Z → Fx (RowO N rw) (RowO N rw) W Z) := fun Z hZ => FU.out.trans (Fx.of (O := RowO N rw) ((keptNil hkUV).next hZ (fun y hy => .inl hy)) (fun y hy => .inr (by have h9 : y = gx := (by simpa using hy); omega)) (fun y hy => .inl hy))
 have HTX : Hid (∀ Z, Kept [gx] V Z → Tw p N f Z go rw rc T1) := fun Z hZ => TV.out.kept hZ hgox hrx
 obtain ⟨T2, hT2⟩ : ∃ T2, tput T1 n 0 d (meet (T1 n 0 d) (sx u)) = T2 := ⟨_, rfl⟩
 obtain ⟨bb, hbb⟩ : ∃ bb, (!decide (meet (T1 n 0 d) (sx u) = T1 n 0 d)) = bb := ⟨_, rfl⟩
 have HR2 : Hid (Rs p T1 T2 bb) := by
   rw [← hbb, ← hT2]
   exact Rs.inc (by rw [← HEN.out]; exact hnN) (by rw [HEF.out]; exact hf1) (by rw [HEF.out]; exact hdF) (fun Y hY hle => by
     have h7 := hY.seed u HUM.out
     rw [HN.out, HD.out, Int.toNat_natCast, Int.toNat_natCast] at h7
     exact h7 (fun h0 => HTN.out (top_of_le (h0 ▸ hle n 0 0))))
 have HQ2 : Hid (bb = false → T1 n 0 0 ≠ top → le (T1 n 0 d) (sx u)) := fun hb _ => inc_no (by rw [hbb]; exact hb)
 have HINC : Hid (∀ Z w9 (x0 x1 x2 : Int), Tw p N f Z go rw rc T1 → Kept [] Z w9 → (sx u).1 = ⟨x0, x1, x2⟩ → Calls Tryz.prog 102 #[.agg #[.slice K.A1 K.n1 K.c1, .slice K.A2 K.n2 K.c2, .int .i64 mn, .int .i64 (f : Nat), .slice K.A3 K.n3 K.c3, .slice K.A4 K.n4 K.c4, .slice (some ⟨go, 0, none⟩) N cN], .int .i64 0, .int .i64 n, .int .i64 d, .agg #[.int .i64 x0, .int .i64 x1, .int .i64 x2]] w9 fun e w' => e = .returned (.bool bb) ∧ Tw p N f w' go rw rc T2 ∧ Fx (RowO N rw) (RowO N rw) Z w') := fun Z w9 x0 x1 x2 hTw hkz hx =>
   (rinc_any w9 0 n d (sx u) (hTw.keep hkz) hnN hf1 hdF hf2 hx).mono (fun e w' ⟨h1, h2, h3⟩ => ⟨by rw [h1, hbb], by rw [← hT2]; exact h2, (Fx.same hkz).trans (RowO.fx hnN h3)⟩)
 have HE := Lib.hid (HNXT.out bb T2 HQ2.out)
 have HR7 := Lib.hid (RS.out.trans HR2.out)
 clear hT2 hbb
 clear Cg Fg C0U F0U ex Bx
 by_cases h1 : uk = 1
 · have HSX : Hid ((sx u).1 = ⟨1, 0, uv⟩) := by show _ = _; rw [← HUV.out]; exact sx_const (HUK.out.trans h1) HFU.out
   subst h1
   go_upto_region 12 with fail
   refine wp_named (fun Z => Blk Z gx [.int .i64 1, .int .i64 0, .int .i64 uv] ∧ Kept [gx] V Z) ⟨Blk.set3 (HBx.out.n rfl), ((((Kept.refl [gx] V).set gx 0 _ (.inl (by simp))).set gx 1 _ (.inl (by simp))).set gx 2 _ (.inl (by simp)))⟩ ?_
   rintro Z ⟨BZ, hkZ⟩
   have ⟨LZ, CZ, FZ⟩ := BZ
   have ⟨LgZ, CgZ, FgZ⟩ := hkZ.blk hsx Bgs.out
   have ⟨L0Z, C0Z, F0Z⟩ := hkZ.blk h0x B0V.out
   have TZ := Lib.hid (HTX.out Z hkZ)
   have FZ0 := Lib.hid (HFXX.out Z hkZ)
   clear Cx Fx_ CgV FgV C0V F0V hkZ
   cases bb with
   | true =>
     go_wp2_with (go_at_call 102; refine (HINC.out _ _ _ _ _ TZ.out (by (exact kpt0)) HSX.out).mono ?_; rintro e w7 ⟨rfl, hT7, hF7⟩)
     exact ⟨⟨i + 1, true, T2, by omega, rfl, by go_num, Lib.hid hT7, Lib.hid (FZ0.out.trans hF7), by have h9 := HR7.out; rw [Bool.or_true] at h9; exact h9, (fun h => by cases h)⟩, by simp [intOf]; omega⟩
   | false =>
     have HR8 : Hid (Rs p T T2 d1) := by have h9 := HR7.out; rw [Bool.or_false] at h9; exact h9
     have HE2 : Hid (d1 = false → ∀ j, j < i + 1 → ∀ u', p.sd[j]? = some u' → T u'.n.toNat 0 0 ≠ top → le (T u'.n.toNat 0 u'.f.toNat) (sx u')) := by have h9 := HE.out; rw [Bool.or_false] at h9; exact h9
     go_wp2_with (go_at_call 102; refine (HINC.out _ _ _ _ _ TZ.out (by (exact kpt0)) HSX.out).mono ?_; rintro e w7 ⟨rfl, hT7, hF7⟩)
     exact ⟨⟨i + 1, d1, T2, by omega, rfl, by go_num, Lib.hid hT7, Lib.hid (FZ0.out.trans hF7), HR8, HE2⟩, by simp [intOf]; omega⟩
 by_cases h2 : uk = 2
 · have HSX : Hid ((sx u).1 = ⟨4, 0, 0⟩) := sx_bot (HUK.out.trans h2)
   subst h2
   go_upto_region 12 with fail
   refine wp_named (fun Z => Blk Z gx [.int .i64 4, .int .i64 0, .int .i64 0] ∧ Kept [gx] V Z) ⟨Blk.set3 (HBx.out.n rfl), ((((Kept.refl [gx] V).set gx 0 _ (.inl (by simp))).set gx 1 _ (.inl (by simp))).set gx 2 _ (.inl (by simp)))⟩ ?_
   rintro Z ⟨BZ, hkZ⟩
   have ⟨LZ, CZ, FZ⟩ := BZ
   have ⟨LgZ, CgZ, FgZ⟩ := hkZ.blk hsx Bgs.out
   have ⟨L0Z, C0Z, F0Z⟩ := hkZ.blk h0x B0V.out
   have TZ := Lib.hid (HTX.out Z hkZ)
   have FZ0 := Lib.hid (HFXX.out Z hkZ)
   clear Cx Fx_ CgV FgV C0V F0V hkZ
   cases bb with
   | true =>
     go_wp2_with (go_at_call 102; refine (HINC.out _ _ _ _ _ TZ.out (by (exact kpt0)) HSX.out).mono ?_; rintro e w7 ⟨rfl, hT7, hF7⟩)
     exact ⟨⟨i + 1, true, T2, by omega, rfl, by go_num, Lib.hid hT7, Lib.hid (FZ0.out.trans hF7), by have h9 := HR7.out; rw [Bool.or_true] at h9; exact h9, (fun h => by cases h)⟩, by simp [intOf]; omega⟩
   | false =>
     have HR8 : Hid (Rs p T T2 d1) := by have h9 := HR7.out; rw [Bool.or_false] at h9; exact h9
     have HE2 : Hid (d1 = false → ∀ j, j < i + 1 → ∀ u', p.sd[j]? = some u' → T u'.n.toNat 0 0 ≠ top → le (T u'.n.toNat 0 u'.f.toNat) (sx u')) := by have h9 := HE.out; rw [Bool.or_false] at h9; exact h9
     go_wp2_with (go_at_call 102; refine (HINC.out _ _ _ _ _ TZ.out (by (exact kpt0)) HSX.out).mono ?_; rintro e w7 ⟨rfl, hT7, hF7⟩)
     exact ⟨⟨i + 1, d1, T2, by omega, rfl, by go_num, Lib.hid hT7, Lib.hid (FZ0.out.trans hF7), HR8, HE2⟩, by simp [intOf]; omega⟩
 have HSX : Hid ((sx u).1 = ⟨0, 0, 0⟩) := by show _ = _; rw [sx_top (by rw [HUK.out]; exact h1) (by rw [HUK.out]; exact h2)]; rfl
 have h1' : (uk == 1) = false := by simpa using h1
 have h2' : (uk == 2) = false := by simpa using h2
 clear h1 h2
 go_upto_region 12 with fail
 refine wp_named (fun Z => Blk Z gx [.int .i64 0, .int .i64 0, .int .i64 0] ∧ Kept [gx] V Z) ⟨HBx.out, Kept.refl _ _⟩ ?_
 rintro Z ⟨BZ, hkZ⟩
 have ⟨LZ, CZ, FZ⟩ := BZ
 have ⟨LgZ, CgZ, FgZ⟩ := hkZ.blk hsx Bgs.out
 have ⟨L0Z, C0Z, F0Z⟩ := hkZ.blk h0x B0V.out
 have TZ := Lib.hid (HTX.out Z hkZ)
 have FZ0 := Lib.hid (HFXX.out Z hkZ)
 clear Cx Fx_ CgV FgV C0V F0V hkZ
 cases bb with
 | true =>
   go_wp2_with (go_at_call 102; refine (HINC.out _ _ _ _ _ TZ.out (by (exact kpt0)) HSX.out).mono ?_; rintro e w7 ⟨rfl, hT7, hF7⟩)
   exact ⟨⟨i + 1, true, T2, by omega, rfl, by go_num, Lib.hid hT7, Lib.hid (FZ0.out.trans hF7), by have h9 := HR7.out; rw [Bool.or_true] at h9; exact h9, (fun h => by cases h)⟩, by simp [intOf]; omega⟩
 | false =>
   have HR8 : Hid (Rs p T T2 d1) := by have h9 := HR7.out; rw [Bool.or_false] at h9; exact h9
   have HE2 : Hid (d1 = false → ∀ j, j < i + 1 → ∀ u', p.sd[j]? = some u' → T u'.n.toNat 0 0 ≠ top → le (T u'.n.toNat 0 u'.f.toNat) (sx u')) := by have h9 := HE.out; rw [Bool.or_false] at h9; exact h9
   go_wp2_with (go_at_call 102; refine (HINC.out _ _ _ _ _ TZ.out (by (exact kpt0)) HSX.out).mono ?_; rintro e w7 ⟨rfl, hT7, hF7⟩)
   exact ⟨⟨i + 1, d1, T2, by omega, rfl, by go_num, Lib.hid hT7, Lib.hid (FZ0.out.trans hF7), HR8, HE2⟩, by simp [intOf]; omega⟩
end Go.Proofs.YtincpmdldpakkaaGreatDoor
namespace Go.Df
open Go.RowKit
theorem least_exists (P : Nat → Prop) (h : ∃ m, P m) : ∃ m, P m ∧ ∀ m', P m' → m ≤ m' := by
 have hk : ∀ k m, m ≤ k → P m → ∃ m, P m ∧ ∀ m', P m' → m ≤ m' := by
   intro k
   induction k with
   | zero => intro m hm hp; obtain rfl : m = 0 := by omega
             exact ⟨0, hp, fun _ _ => Nat.zero_le _⟩
   | succ k ih =>
     intro m hm hp
     by_cases hx : ∃ m', P m' ∧ m' < m
     · obtain ⟨m', h1, h2⟩ := hx
       exact ih m' (by omega) h1
     · exact ⟨m, hp, fun m' h1 => Nat.le_of_not_lt fun h2 => hx ⟨m', h1, h2⟩⟩
 obtain ⟨m, hm⟩ := h
 exact hk m m (Nat.le_refl _) hm
open Classical in
/-- The least number of which P holds in a world. -/
noncomputable def leastM (P : Nat → World → Prop) (w : World) : Nat := if h : ∃ m, P m w then Classical.choose (least_exists (fun m => P m w) h) else 0
theorem leastM_spec {P : Nat → World → Prop} {w : World} (h : ∃ m, P m w) : P (leastM P w) w := by
 unfold leastM
 rw [dif_pos h]
 exact (Classical.choose_spec (least_exists (fun m => P m w) h)).1
theorem leastM_le {P : Nat → World → Prop} {w : World} {m : Nat} (h : P m w) : leastM P w ≤ m := by
 unfold leastM
 rw [dif_pos ⟨m, h⟩]
 exact (Classical.choose_spec (least_exists (fun m => P m w) ⟨m, h⟩)).2 m h
end Go.Df
namespace Go.Proofs.YtincpmdldpakkaaGreatDoor
open Go.RowKit Go.Df Go.Df.Iv Go.Df.Sp
theorem pop_some {rA qA : Option Addr} {rc qn qc n : Nat} {r : List Nat} {N : Nat} (w : World) (hr : SIn w rA 0 rc []) (hq : SIn w qA qn qc (ofNats (n :: r))) (hd : (n :: r).Nodup) (hN : ∀ x ∈ n :: r, x < N) (h8 : N ≤ 8192) :
   Calls Tryz.prog 137 #[.agg #[.slice rA 0 rc, .slice qA qn qc]] w (GetPop w (n : Int) [] (ofNats r) true) := by
 have hc := wl_ok hd hN h8
 have hl : qn = r.length + 1 := by have := hq.1.1; rw [ofNats_len] at this; simpa using this.symm
 have e1 : gi (ofNats (n :: r)) 0 = (n : Int) := by rw [gi_ofNats (by simp)]; rfl
 have e2 : (ofNats (n :: r)).drop 1 = ofNats r := by simp [ofNats]
 have key : Calls Tryz.prog 137 #[.agg #[.slice rA 0 rc, .slice qA qn qc]] w (GetPop w (gi (ofNats (n :: r)) 0) [] ((ofNats (n :: r)).drop 1) true) := by
   by_cases h2 : 2 ≤ qn
   · exact pop_two rA qA 0 rc qn qc [] (ofNats (n :: r)) w hr.1 hq.1 hc h2 hq.2.1 (fun _ => rfl)
   · obtain rfl : qn = 1 := by omega
     exact pop_one rA qA 0 rc qc [] (ofNats (n :: r)) w hr.1 hq.1 hc hq.2.1 (fun _ => rfl)
 rw [e1, e2] at key
 exact key
structure Dr (p : Vb) (J : Nat → List (Nat × Nat) → St → Prop) : Prop where
 wf : ∀ n r s, J n r s → Wf p s
 pop : ∀ s n r, J 0 [] s → s.q = n :: r → J n (s.pd n) (popS s n r)
 rest : ∀ n s, J n [] s → J 0 [] s
def GetD (p : Vb) (K : Kn) (w0 : World) (b : Nat) (O : Nat → Prop) (G : Gh) (w : World) (s : St) (J : St → Prop) (e : Ending) (w' : World) : Prop := ∃ s' O' G', e = .returned (.tuple #[]) ∧ Mem p K w0 b O' G' w' s' ∧ Fy K O O' G G' s s' w w' ∧ J s' ∧ mea p s' ≤ mea p s
end Go.Proofs.YtincpmdldpakkaaGreatDoor
namespace Go.Df
open Go.RowKit
namespace Iv
open Sp
noncomputable def lv (p : Vb) (T : Nat → Nat → Nat → D) (V : Nat → Nat → U) (k : Nat) (q : Xp) : U := app (xd q) (solV p T V (ge p.es k).a.toNat q.i.toNat)
def IsSol (p : Vb) (S : Nat → Nat → U) : Prop := ∃ T V, Clo p T ∧ Snd p T ∧ VClo p T V ∧ VSnd p T V ∧ ∀ n d, n < p.ns.length → d < p.F.toNat → Glb (At p T V n d) (S n d)
theorem IsSol.eq {p : Vb} {S S' : Nat → Nat → U} (h : IsSol p S) (k : IsSol p S') {n d : Nat} (hn : n < p.ns.length) (hd : d < p.F.toNat) : S n d = S' n d := by
 obtain ⟨T, V, c1, s1, v1, w1, g1⟩ := h
 obtain ⟨T', V', c2, s2, v2, w2, g2⟩ := k
 have e : T' = T := by funext n a d; exact clo_eq c2 s2 c1 s1 n a d
 subst e
 have e : V' = V := by funext n a; exact vclo_eq v2 w2 v1 w1 n a
 subst e
 exact (g1 n d hn hd).eq (g2 n d hn hd)
def V0s (p : Vb) : Nat → Nat → U := vput (fun _ _ => topV) p.mn.toNat 0 botV
end Iv
end Go.Df
namespace Go.Df
open Go.RowKit
namespace Iv
open Sp
structure Vw (N f : Nat) (w : World) (go : Nat) (rw rc : Nat → Nat) (V : Nat → Nat → U) : Prop where
 glt : go < w.heap.size
 row : ∀ n, n < N → w.cell? ⟨go, n, none⟩ = some (.slice (some ⟨rw n, 0, none⟩) f (rc n))
 cell : ∀ n a, n < N → a < f → w.cell? ⟨rw n, a * 2, none⟩ = some (.int .i64 (V n a).1.k) ∧ w.cell? ⟨rw n, a * 2 + 1, none⟩ = some (.int .i64 (V n a).1.n)
 fr : ∀ n i, n < N → w.frozen? ⟨rw n, i, none⟩ = false
 lt : ∀ n, n < N → rw n < w.heap.size
 inj : ∀ n m, n < N → m < N → rw n = rw m → n = m
 ne : ∀ n, n < N → rw n ≠ go
section
variable {N f : Nat} {w w' : World} {go : Nat} {rw rc : Nat → Nat} {V : Nat → Nat → U}
theorem Vw.kept (h : Vw N f w go rw rc V) {X : List Nat} (hk : Kept X w w') (hg : go ∉ X) (hr : ∀ n, n < N → rw n ∉ X) : Vw N f w' go rw rc V :=
 ⟨Nat.lt_of_lt_of_le h.glt hk.size, fun n hn => (hk.cell go n h.glt hg).trans (h.row n hn), fun n a hn ha => ⟨(hk.cell _ _ (h.lt n hn) (hr n hn)).trans (h.cell n a hn ha).1, (hk.cell _ _ (h.lt n hn) (hr n hn)).trans (h.cell n a hn ha).2⟩,
   fun n i hn => (hk.frozen _ _ (h.lt n hn) (hr n hn)).trans (h.fr n i hn), fun n hn => Nat.lt_of_lt_of_le (h.lt n hn) hk.size, h.inj, h.ne⟩
theorem Vw.keep (h : Vw N f w go rw rc V) (hk : Kept [] w w') : Vw N f w' go rw rc V := h.kept hk (by simp) (by simp)
theorem Vw.put (h : Vw N f w go rw rc V) {n a : Nat} (hn : n < N) (ha : a < f) (y : U) {i : Nat} (hi : i = a * 2) : Vw N f ((w.setCell ⟨rw n, i, none⟩ (.int .i64 y.1.k)).setCell ⟨rw n, i + 1, none⟩ (.int .i64 y.1.n)) go rw rc (vput V n a y) := by
 subst hi
 have hne := h.ne n hn
 have hc := h.cell n a hn ha
 refine ⟨by simpa [World.setCell] using h.glt, fun m hm => ?_, fun m a' hm ha' => ?_, fun m i hm => by simpa using h.fr m i hm, fun m hm => by simpa [World.setCell] using h.lt m hm, h.inj, h.ne⟩
 · rw [set_other (.inl hne), set_other (.inl hne)]
   exact h.row m hm
 · by_cases e : m = n ∧ a' = a
   · obtain ⟨rfl, rfl⟩ := e
     rw [vput_at]
     have s1 := set_same (v := .int .i64 y.1.k) hc.1
     have c2 : (w.setCell ⟨rw m, a' * 2, none⟩ (.int .i64 y.1.k)).cell? ⟨rw m, a' * 2 + 1, none⟩ = some (.int .i64 (V m a').1.n) := (set_other (.inr (by omega))).trans hc.2
     have s2 := set_same (v := .int .i64 y.1.n) c2
     exact ⟨by rw [set_other (.inr (by omega))]; exact s1, s2⟩
   · have e9 : vput V n a y m a' = V m a' := if_neg e
     rw [e9]
     have hdis : rw n ≠ rw m ∨ a ≠ a' := by
       by_cases e1 : m = n
       · right; intro e2; exact e ⟨e1, e2.symm⟩
       · left; exact fun e2 => e1 (h.inj n m hn hm e2).symm
     have key : ∀ (w : World) (v : Value) (x z : Nat), x < 2 → z < 2 → (w.setCell ⟨rw n, a * 2 + x, none⟩ v).cell? ⟨rw m, a' * 2 + z, none⟩ = w.cell? ⟨rw m, a' * 2 + z, none⟩ := fun w v x z hx hz => set_other (hdis.imp id (fun h9 => by omega))
     have hcm := h.cell m a' hm ha'
     refine ⟨?_, ?_⟩
     · exact ((key _ (.int .i64 y.1.n) 1 0 (by omega) (by omega)).trans (key w (.int .i64 y.1.k) 0 0 (by omega) (by omega))).trans hcm.1
     · exact ((key _ (.int .i64 y.1.n) 1 1 (by omega) (by omega)).trans (key w (.int .i64 y.1.k) 0 1 (by omega) (by omega))).trans hcm.2
end
end Iv
end Go.Df
namespace Go.Df
open Go.RowKit
def EmV (z : Value) (base : Nat) (tb : TypeId) (m : Nat) (bs : Nat → Nat) (n : Nat) (w : World) : Prop :=
 (∀ x, x < n → base ≤ bs x ∧ Tag w (bs x) tb ∧ ∀ i, i < m → w.cell? ⟨bs x, i, none⟩ = some z) ∧ ∀ x y, x < n → y < n → bs x = bs y → x = y
theorem EmV.kept {z : Value} {base : Nat} {tb : TypeId} {m n : Nat} {bs : Nat → Nat} {X : List Nat} {w w' : World} (h : EmV z base tb m bs n w) (hk : Kept X w w') (hX : ∀ x, x < n → bs x ∉ X) : EmV z base tb m bs n w' :=
 ⟨fun x hx => by
   obtain ⟨h1, h2, h3⟩ := h.1 x hx
   exact ⟨h1, h2.same (hk.block _ h2.lt (hX x hx)), fun i hi => (hk.cell _ _ h2.lt (hX x hx)).trans (h3 i hi)⟩, h.2⟩
def updN (f : Nat → Nat) (n x : Nat) : Nat → Nat := fun i => if i = n then x else f i
theorem EmV.snoc {z : Value} {base : Nat} {tb : TypeId} {m n g : Nat} {bs : Nat → Nat} {w : World} (h : EmV z base tb m bs n w) (hg : base ≤ g) (ht : Tag w g tb) (hc : ∀ i, i < m → w.cell? ⟨g, i, none⟩ = some z) (hn : ∀ x, x < n → bs x ≠ g) : EmV z base tb m (updN bs n g) (n + 1) w := by
 refine ⟨fun x hx => ?_, fun x y hx hy e => ?_⟩
 · unfold updN
   by_cases e : x = n
   · rw [if_pos e]; exact ⟨hg, ht, hc⟩
   · rw [if_neg e]; exact h.1 x (by omega)
 · unfold updN at e
   by_cases e1 : x = n
   · by_cases e2 : y = n
     · omega
     · rw [if_pos e1, if_neg e2] at e; exact absurd e.symm (hn y (by omega))
   · by_cases e2 : y = n
     · rw [if_neg e1, if_pos e2] at e; exact absurd e (hn x (by omega))
     · rw [if_neg e1, if_neg e2] at e; exact h.2 x y (by omega) (by omega) e
theorem rows_snoc (bs rc : Nat → Nat) (m n g c : Nat) : ((List.range n).map fun x => Value.slice (some ⟨bs x, 0, none⟩) m (rc x)) ++ [Value.slice (some ⟨g, 0, none⟩) m c] = (List.range (n + 1)).map fun x => Value.slice (some ⟨updN bs n g x, 0, none⟩) m (updN rc n c x) := by
 rw [List.range_succ, List.map_append]
 congr 1
 · refine List.map_congr_left fun x hx => ?_
   have : x ≠ n := by have := List.mem_range.1 hx; omega
   simp [updN, this]
 · simp [updN]
theorem rep_snoc3 (v : Value) (j : Nat) : List.replicate (j * 3) v ++ [v, v, v] = List.replicate ((j + 1) * 3) v := by
 rw [Nat.add_mul, Nat.one_mul, ← List.replicate_append_replicate]
 rfl
theorem Rd.new3 (w : World) (b : Nat) (u0 u1 u2 : Value) (t : TypeId) (hb : b = w.heap.size) : Rd (w.alloc (.cells #[u0, u1, u2] t)) 3 (some ⟨b, 0, none⟩) 1 [u0, u1, u2] := by
 subst hb
 refine ⟨rfl, fun _ => ⟨_, _, rfl, by simp, fun j _ => ?_⟩⟩
 rw [World.cell?_alloc_new, Nat.zero_add]; simp
def truthOf : Value → Nat | .bool true => 1 | _ => 0
namespace Iv
open Sp
structure EdgeR (p : Vb) (T : Nat → Nat → Nat → D) (f k : Nat) : Prop where
 flow : (ge p.es k).k = 1 ∨ (ge p.es k).k = 5 → ∀ q ∈ gl p.fl k, ∀ a, a < f → le (T (ge p.es k).b.toNat a q.o.toNat) (comp (T (ge p.es k).a.toNat a q.i.toNat) (xd q))
 call : (ge p.es k).k = 2 → ∀ q ∈ gl p.fl k, ∀ a, a < f → T (ge p.es k).a.toNat a q.i.toNat ≠ top → xd q ≠ top → le (T (ge p.es k).b.toNat q.o.toNat q.o.toNat) shift
 ret : (ge p.es k).k = 3 ∨ (ge p.es k).k = 4 → ∀ c, c < p.es.length → RC p k c → ∀ q ∈ gl p.fl c, ∀ u ∈ gl p.fl k, RQ p T k c f q u
theorem clo_of {p : Vb} {T : Nat → Nat → Nat → D} {f : Nat} (htop : ∀ n a d, ¬ a < f → T n a d = top) (hm : le (T p.mn.toNat 0 0) shift) (hs : ∀ u ∈ p.sd, T u.n.toNat 0 0 ≠ top → le (T u.n.toNat 0 u.f.toNat) (sx u)) (he : ∀ k, k < p.es.length → EdgeR p T f k) : Clo p T := by
 refine ⟨hm, hs, fun k hk h2 q hq a => ?_, fun k hk h2 q hq a h0 hx => ?_, fun c hc h2 q hq r hr h3 u hu e1 e2 a => ?_⟩
 · by_cases ha : a < f
   · exact (he k hk).flow h2 q hq a ha
   · rw [htop (ge p.es k).a.toNat a _ ha, top_comp]; exact le_top _
 · by_cases ha : a < f
   · exact (he k hk).call h2 q hq a ha h0 hx
   · exact absurd (htop _ a _ ha) h0
 · by_cases ha : a < f
   · exact (he r hr).ret h3 c hc ⟨h2, e1, e2⟩ q hq u hu a ha
   · rw [htop (ge p.es c).a.toNat a _ ha, top_comp, top_comp, top_comp]; exact le_top _
end Iv
end Go.Df
