/- Texts: Cz. -/
import Derived.Test.YtincpmdldpakkaaDoorCs30
namespace Go.Df
namespace If
open Sp
theorem kind_start {ns : List Nd} (h : NdOk ns) {x : Nat} (hx : x < ns.length) : kindAt ns (gn ns x).f 1 = (stOf ns x : Nat) := by
  have h1 := h.start hx
  have h2 := stOf_le ns x
  refine kind_hit (fun j hj => ?_) (by omega) (by simp [h1.1, h1.2])
  cases hh : ((gn ns j).f == (gn ns x).f && (gn ns j).k == 1) with
  | false => rfl
  | true =>
    simp at hh
    have h3 := (h.start_iff hx (by omega) hh.2).2 hh.1
    omega
end If
namespace Iv
open Sp
def stL (ns : List Nd) (i : Nat) : List Nat := (List.range i).map (If.stOf ns)
theorem stL_succ (ns : List Nd) (i : Nat) : stL ns (i + 1) = stL ns i ++ [If.stOf ns i] := by unfold stL; rw [List.range_succ, List.map_append]; rfl
theorem stL_len (ns : List Nd) (i : Nat) : (stL ns i).length = i := by simp [stL]
theorem stL_at {ns : List Nd} {n i : Nat} (h : i < n) : (stL ns n)[i]'(by rw [stL_len]; exact h) = If.stOf ns i := by simp [stL]
noncomputable def vfold (p : Vb) (T : Nat → Nat → Nat → D) (V : Nat → Nat → U) (n d a : Nat) : U := (List.range a).foldl (fun v a => meetV v (app (T n a d) (V (If.stOf p.ns n) a))) topV
theorem vfold_succ (p : Vb) (T : Nat → Nat → Nat → D) (V : Nat → Nat → U) (n d a : Nat) : vfold p T V n d (a + 1) = meetV (vfold p T V n d a) (app (T n a d) (V (If.stOf p.ns n) a)) := by unfold vfold; rw [List.range_succ, List.foldl_append]; rfl
end Iv
end Go.Df
namespace Go.Proofs.YtincpmdldpakkaaDoor
open Go.RowKit Go.Df Go.Df.Iv Go.Df.Sp
attribute [local go_sem ↓] Go.wp_at_zero Go.wp_at_succ
set_option maxRecDepth 100000 in
set_option maxHeartbeats 8000000 in
theorem rstarts_any (A1 A2 : Option Addr) (N c1 n2 c2 : Nat) (mn : Int) (ns : List Nd) (w : World) (hn : Nds w A1 N ns) (hok : If.NdOk ns) (h8 : N ≤ 8192) (h0 : 0 < N) :
    Calls Tryd.prog 34 #[.agg #[.slice A1 N c1, .slice A2 n2 c2, .int .i64 mn]] w fun e w' => ∃ A c, e = .returned (.slice A N c) ∧ SIn w' A N c (ofNats (stL ns N)) ∧ Fr w w' A ∧ Below w.heap.size w w' := by
  obtain ⟨i0, hi, hz0, hz1, hz2⟩ := info_parts inti_info
  have HN := Lib.hid hn
  have HNL := Lib.hid hn.1
  have HOK := Lib.hid hok
  obtain ⟨bn, on, rfl, hl1, hc1'⟩ := hn.2 h0
  have HC1 := Lib.hid hc1'
  clear hn hok hc1'
  go_enter Tryd.func34, Tryd.ntmps34
  go_upto_region 1 with fail
  refine wp_named (fun W => ∃ b0, w.heap.size = b0 ∧ Blk W b0 [.slice (some ⟨bn, on, none⟩) N c1, .slice A2 n2 c2, .int .i64 mn] ∧ Below w.heap.size w W) ⟨_, rfl, ?_, ?_⟩ ?_
  · exact Blk.new _ _ _ _ (by first | rfl | simp)
  · go_grown
  rintro W ⟨b0, e0, B0, hB⟩
  rw [e0]
  have G0 : w.heap.size ≤ b0 := by omega
  clear e0
  have ⟨L0, C0, F0⟩ := B0
  have hkW : Kept [] w W := (Kept.refl _ _).call hB
  go_wp2_with fail
  go_loopw [3, 4] (fun s3 s4 wq => ∃ (i : Nat) (A : Option Addr) (c : Nat), i ≤ N ∧ s3 = .slice A i c ∧ s4 = .int .i64 i ∧ Kept [] W wq ∧ Hid (wq.ownsRow W.heap.size 3 1 (.slice A i c) i ((ofNats (stL ns i)).map (Value.int .i64)))) (fun _ s4 _ => N - (intOf s4).toNat)
  case atStart => exact ⟨0, none, 0, Nat.zero_le _, rfl, rfl, Kept.refl _ _, Lib.hid (World.ownsRow_nil _ _ _ _)⟩
  case round =>
  rename World => wq
  obtain ⟨i, A, c, hi', rfl, rfl, hkq, OW⟩ := hrel
  have B0q := hkq.blk (by simp) B0
  have ⟨L0q, C0q, F0q⟩ := B0q
  clear C0 F0
  by_cases hlt : i < N
  case neg =>
    obtain rfl : i = N := by omega
    obtain ⟨A', c', hv, h2, h3⟩ := SIn.of_own OW.out
    injection hv with e1 e2 e3
    subst e1
    subst e3
    have HS2 := Lib.hid h2
    have HS3 : Hid (Fr w wq A) := Lib.hid (fun a ha => ⟨by have h4 := (h3 a ha).1; have := hkW.size; omega, (h3 a ha).2⟩)
    clear h2 h3
    go_wp2_with fail
    go_ret
    exact ⟨A, c, rfl, HS2.out, HS3.out, (keptTrans hkW hkq).toBelow⟩
  have hc1 := HC1.out
  have hkwq : Kept [] w wq := keptTrans hkW hkq
  obtain ⟨nf, hnf⟩ : ∃ x, (gn ns i).f = x := ⟨_, rfl⟩
  have r1 := (hkwq.cell bn _ hl1 (by simp)).trans (hc1 i hlt).1
  rw [hnf] at r1
  have hlq : bn < wq.heap.size := Nat.lt_of_lt_of_le hl1 hkwq.size
  obtain ⟨st, hst⟩ : ∃ st, If.stOf ns i = st := ⟨_, rfl⟩
  have HST : Hid (kindAt ns nf 1 = (st : Nat)) := Lib.hid (by rw [← hnf, ← hst]; exact If.kind_start HOK.out (by rw [HNL.out]; exact hlt))
  have HSL : Hid ((ofNats (stL ns i)).map (Value.int .i64) ++ [.int .i64 (st : Nat)] = (ofNats (stL ns (i + 1))).map (Value.int .i64)) := Lib.hid (by rw [stL_succ, ofNats_snoc, List.map_append, hst]; rfl)
  have hi1 : (i : Int) < (N : Int) := by omega
  have x0 : b0 ∉ (Value.slice A i c).ownBlock.toList := fun hm => by have h9 := own_ge OW.out (by simpa using hm : (Value.slice A i c).ownBlock = some b0); have := B0.1; omega
  have xn : bn ∉ (Value.slice A i c).ownBlock.toList := fun hm => by have h9 := own_ge OW.out (by simpa using hm : (Value.slice A i c).ownBlock = some bn); have := hkW.size; omega
  have hWq := hkq.size
  have HSTA : Hid (∀ w9, Kept [] wq w9 → Calls Tryd.prog 74 #[.agg #[.slice (some ⟨bn, on, none⟩) N c1, .slice A2 n2 c2, .int .i64 mn], .int .i64 nf] w9 fun e w' => e = .returned (.int .i64 (st : Nat)) ∧ Below w9.heap.size w9 w') := fun w9 hk9 =>
    (start_any _ A2 N c1 n2 c2 mn nf ns w9 (HN.out.later (keptTrans hkwq hk9).toBelow) (by omega)).mono (fun e w' ⟨h1, h2⟩ => ⟨by rw [h1, HST.out], h2⟩)
  have HOWG : Hid (∀ y ∈ (Value.slice A i c).ownBlock.toList, W.heap.size ≤ y) := Lib.hid (fun y hy => own_ge OW.out (by simpa using hy))
  clear hc1 hnf hst
  go_upto_region 5 with fail
  refine wp_region_E 11 (fun w' => SXu (Value.slice A i c).ownBlock.toList b0 bn wq w') (by kernel_rfl) (by (first | (with_reducible assumption) | exact SXu.of (keptNil (Kept.refl _ _).drew) L0q hlq x0 xn | exact SXu.of (keptNil (hk4.alloc _)) L0q hlq x0 xn | exact SXu.of HKA.out L0q hlq x0 xn)) (fun hHeld => ?_)
  refine WE_tk 0 ?_
  refine WE_tk 1 ?_
  refine WE_tk 2 ?_
  refine WE_tk 3 ?_
  refine WE_tk 4 ?_
  refine WE_tk 5 ?_
  refine WE_tk 6 ?_
  refine WE_tk 7 ?_
  refine WE_step 8 rfl (by kernel_rfl) (fun K hK => ?_)
  go_simp
  (go_at_call 74; refine (HSTA.out _ (by (exact kpt0))).mono ?_; rintro e w4 ⟨rfl, hb4⟩; have hk4 : Kept [] wq w4 := Kept.call (by (exact kpt0)) hb4; have hs4 : SXu (Value.slice A i c).ownBlock.toList b0 bn wq w4 := SXu.of (keptNil hk4) L0q hlq x0 xn)
  (try go_wp2_with fail)
  refine hK.out _ _ ?_ (fun hHeld => ?_)
  · (first | (with_reducible assumption) | exact SXu.of (keptNil (Kept.refl _ _).drew) L0q hlq x0 xn | exact SXu.of (keptNil (hk4.alloc _)) L0q hlq x0 xn | exact SXu.of HKA.out L0q hlq x0 xn)
  clear hK K
  try simp only [Act.put, List.setIfInBounds_toArray, List.set_cons_zero, List.set_cons_succ]
  refine WE_step 9 rfl (by kernel_rfl) (fun K hK => ?_)
  go_simp
  refine hK.out _ _ ?_ (fun hHeld => ?_)
  · (first | (with_reducible assumption) | exact SXu.of (keptNil (Kept.refl _ _).drew) L0q hlq x0 xn | exact SXu.of (keptNil (hk4.alloc _)) L0q hlq x0 xn | exact SXu.of HKA.out L0q hlq x0 xn)
  clear hK K
  try simp only [Act.put, List.setIfInBounds_toArray, List.set_cons_zero, List.set_cons_succ]
  refine WE_step 10 rfl (by kernel_rfl) (fun K hK => ?_)
  (refine step_append_rd _ rfl _ _ 83 rfl W.heap.size 3 i0 (.int .i64 0) 1 8 Tryd.underlying83 hi hz0 hz1 hz2 rfl (by decide) (.slice A i c) i _ rfl (own_kept2 (X := []) OW.out (hk4.alloc _) (by simp)) (some ⟨w4.heap.size, 0, none⟩) 1 1 [.int .i64 (st : Nat)] rfl (Rd.new1 _ _ _ _ rfl) (fun h => by cases h) (by intro u hu; simp at hu; subst hu; rfl) (i + 1) rfl _ HSL.out (by unfold maxLen; omega) (by omega) (by have := hk4.size; simp; omega) ?_; intro A8 c8 w8 hown8 hk8 hat8; have hkA : Kept (Value.slice A i c).ownBlock.toList wq w8 := (keptNil (hk4.alloc _)).next hk8 (fun y hy => Or.inl hy); have HO8 := Lib.hid hown8; have HKA := Lib.hid hkA; clear hown8 hk8 hat8 hkA)
  refine hK.out _ _ ?_ (fun hHeld => ?_)
  · (first | (with_reducible assumption) | exact SXu.of (keptNil (Kept.refl _ _).drew) L0q hlq x0 xn | exact SXu.of (keptNil (hk4.alloc _)) L0q hlq x0 xn | exact SXu.of HKA.out L0q hlq x0 xn)
  clear hK K
  try simp only [Act.put, List.setIfInBounds_toArray, List.set_cons_zero, List.set_cons_succ]
  refine WE_last rfl (by kernel_rfl) (fun K hK => ?_)
  go_simp
  refine hK.out _ _ ?_
  clear hK K
  have HW8 : Hid (Kept [] W w8) := Lib.hid (kept_fresh hkq HKA.out HOWG.out)
  clear C0q F0q r1
  go_wp2_with fail
  exact ⟨⟨i + 1, A8, c8, by omega, rfl, by go_num, HW8.out, HO8⟩, by simp [intOf]; omega⟩
set_option maxRecDepth 100000 in
set_option maxHeartbeats 8000000 in
theorem rvalue_any {p : Vb} {N f go cN go2 cV cs n1 c1 n2 c2 n3 c3 n4 c4 : Nat} {A1 A2 A3 A4 As : Option Addr} {mn : Int} {rw rc rw2 rc2 : Nat → Nat} {T : Nat → Nat → Nat → D} {V : Nat → Nat → U} (w : World) (n d : Nat) (hT : Tw p N f w go rw rc T) (hV : Vw N f w go2 rw2 rc2 V) (hS : Ints w As N (ofNats (stL p.ns N))) (hN : N = p.ns.length) (hF : p.F = (f : Int)) (hn : n < N) (hd : d < f) (hf : f ≤ 1024) {y0 y1 : Int} (hy : (solV p T V n d).1 = ⟨y0, y1⟩) :
    Calls Tryd.prog 36 #[.agg #[.slice A1 n1 c1, .slice A2 n2 c2, .int .i64 mn, .int .i64 (f : Nat), .slice A3 n3 c3, .slice A4 n4 c4, .slice (some ⟨go, 0, none⟩) N cN], .slice As N cs, .slice (some ⟨go2, 0, none⟩) N cV, .int .i64 n, .int .i64 d] w fun e w' => e = .returned (.agg #[.int .i64 y0, .int .i64 y1]) ∧ Below w.heap.size w w' := by
  have HT := Lib.hid hT
  have HV := Lib.hid hV
  have HFE : Hid (p.F.toNat = f) := by show _ = _; rw [hF, Int.toNat_natCast]
  have HY : Hid ((vfold p T V n d f).1 = ⟨y0, y1⟩) := by show _ = _; rw [← hy]; unfold vfold solV; rw [HFE.out]
  obtain ⟨st, hst⟩ : ∃ st, If.stOf p.ns n = st := ⟨_, rfl⟩
  have hstN : st < N := by have := If.stOf_le p.ns n; omega
  obtain ⟨bS, oS, rfl, hlS, hcS⟩ := hS.2 (by omega)
  have hS1 : w.cell? ⟨bS, oS + n, none⟩ = some (.int .i64 (st : Nat)) := by
    rw [hcS n hn, gi_ofNats (by rw [stL_len]; exact hn), stL_at hn, hst]
  have HST := Lib.hid hst
  have hrow2 := hV.row st hstN
  have hgl2 := hV.glt
  have hrl2 := hV.lt st hstN
  obtain ⟨r2, hr2⟩ : ∃ r, rw2 st = r := ⟨_, rfl⟩
  obtain ⟨k2, hk2⟩ : ∃ r, rc2 st = r := ⟨_, rfl⟩
  rw [hr2, hk2] at hrow2
  rw [hr2] at hrl2
  have HR2 := Lib.hid hr2
  clear hT hV hS hy hst hcS hr2 hk2 hF hN
  go_enter Tryd.func36, Tryd.ntmps36
  go_upto_region 1 with fail
  refine wp_named (fun W => ∃ b0 b1, w.heap.size = b0 ∧ w.heap.size + 1 = b1 ∧ Blk W b0 [.slice A1 n1 c1, .slice A2 n2 c2, .int .i64 mn, .int .i64 (f : Nat), .slice A3 n3 c3, .slice A4 n4 c4, .slice (some ⟨go, 0, none⟩) N cN] ∧ Blk W b1 [.int .i64 0, .int .i64 0] ∧ Below w.heap.size w W) ⟨_, _, rfl, rfl, ?_, ?_, ?_⟩ ?_
  · exact (Blk.new _ _ _ _ (by first | rfl | simp)).alloc _
  · exact Blk.new _ _ _ _ (by first | rfl | simp)
  · go_grown
  rintro W ⟨b0, b1, e0, e1, B0, B1, hB⟩
  rw [e1, e0]
  have G0 : w.heap.size ≤ b0 := by omega
  have n01 : b0 ≠ b1 := by omega
  have G1 : w.heap.size ≤ b1 := by omega
  have n10 : b1 ≠ b0 := by omega
  clear e0 e1
  have ⟨L0, C0, F0⟩ := B0
  have ⟨L1, C1, F1⟩ := B1
  have hkW : Kept [] w W := (Kept.refl _ _).call hB
  go_upto_region 2 with fail
  refine wp_named (fun U => ∃ g, W.heap.size = g ∧ Blk U g [.int .i64 0, .int .i64 0] ∧ Kept [] W U) ⟨_, rfl, Blk.new _ _ _ _ rfl, (Kept.refl _ _).alloc _⟩ ?_
  rintro U ⟨g, eg, Bg, hkU⟩
  rw [eg]
  have hkwU : Kept [] w U := keptTrans hkW hkU
  have B0U := hkU.blk (by simp) B0
  have B1U := Lib.hid (hkU.blk (by simp) B1)
  have ⟨L0U, C0U, F0U⟩ := B0U
  have hg0 : W.heap.size ≤ g := by omega
  have hwg : w.heap.size ≤ g := by have := hkW.size; omega
  have hb0g : b0 ∉ [g] := by have := B0.1; simp; omega
  have hb1g : b1 ∉ [g] := by have := B1.1; simp; omega
  have hlow : ∀ x, x < w.heap.size → x ∉ [g] := fun x hx => by simp; omega
  have HBg : Hid (Blk U g [.int .i64 (vfold p T V n d 0).1.k, .int .i64 (vfold p T V n d 0).1.n]) := Bg
  clear C0 F0 C1 F1 eg Bg
  go_wp2_with fail
  go_loopw [12] (fun s12 wr => ∃ (a : Nat), a ≤ f ∧ s12 = .int .i64 a ∧ Kept [g] U wr ∧ Hid (Blk wr g [.int .i64 (vfold p T V n d a).1.k, .int .i64 (vfold p T V n d a).1.n])) (fun s12 _ => f - (intOf s12).toNat)
  case atStart => exact ⟨0, Nat.zero_le _, rfl, Kept.refl _ _, HBg⟩
  case round =>
  rename World => wr
  clear C0U F0U HBg
  obtain ⟨a, ha, rfl, hkr, BG⟩ := hrel
  have ⟨L0r, C0r, F0r⟩ := hkr.blk hb0g B0U
  by_cases hlt : a < f
  case neg =>
    obtain rfl : a = f := by omega
    obtain ⟨v0, hv0⟩ : ∃ v, (vfold p T V n d a).1.k = v := ⟨_, rfl⟩
    obtain ⟨v1, hv1⟩ : ∃ v, (vfold p T V n d a).1.n = v := ⟨_, rfl⟩
    have e0 : v0 = y0 := by rw [← hv0, HY.out]
    have e1 : v1 = y1 := by rw [← hv1, HY.out]
    have BGr := BG.out
    rw [hv0, hv1, e0, e1] at BGr
    have ⟨LGr, CGr, FGr⟩ := BGr
    have B1r := hkr.blk hb1g B1U.out
    have ⟨L1r, C1r, F1r⟩ := B1r
    have hwr : Kept [] w wr := kept_fresh hkwU hkr (by simpa using hwg)
    clear hv0 hv1 e0 e1 BG
    go_wp2_with fail
    refine retNamedT (fun Y => Blk Y b1 [.int .i64 y0, .int .i64 y1] ∧ Kept [b1] wr Y) ⟨(B1r.set 0 _).set 1 _, ((Kept.refl [b1] wr).set b1 0 _ (.inl (by simp))).set b1 1 _ (.inl (by simp))⟩ ?_
    rintro Y ⟨BY, hkY⟩
    have ⟨LY, CY, FY⟩ := BY
    refine bodyPost_ret (by simp [results, Tryd.results36, go_sem, CY]; try rfl) rfl ?_
    exact ⟨rfl, (kept_fresh hwr hkY (by simpa using G1)).toBelow⟩
  have hwr : Kept [] w wr := kept_fresh hkwU hkr (by simpa using hwg)
  have ha1 : (a : Int) < (f : Int) := by omega
  have hcv := HV.out.cell st a hstN hlt
  rw [HR2.out] at hcv
  obtain ⟨u0, hu0⟩ : ∃ v, (V st a).1.k = v := ⟨_, rfl⟩
  obtain ⟨u1, hu1⟩ : ∃ v, (V st a).1.n = v := ⟨_, rfl⟩
  have eU : (V st a).1 = ⟨u0, u1⟩ := by rw [← hu0, ← hu1]
  rw [hu0, hu1] at hcv
  obtain ⟨v0, hv0⟩ : ∃ v, (vfold p T V n d a).1.k = v := ⟨_, rfl⟩
  obtain ⟨v1, hv1⟩ : ∃ v, (vfold p T V n d a).1.n = v := ⟨_, rfl⟩
  have eV : (vfold p T V n d a).1 = ⟨v0, v1⟩ := by rw [← hv0, ← hv1]
  have BGr := BG.out
  rw [hv0, hv1] at BGr
  obtain ⟨x0, hx0⟩ : ∃ v, (T n a d).1.k = v := ⟨_, rfl⟩
  obtain ⟨x1, hx1⟩ : ∃ v, (T n a d).1.b = v := ⟨_, rfl⟩
  obtain ⟨x2, hx2⟩ : ∃ v, (T n a d).1.c = v := ⟨_, rfl⟩
  have eX : (T n a d).1 = ⟨x0, x1, x2⟩ := by rw [← hx0, ← hx1, ← hx2]
  obtain ⟨q0, hq0⟩ : ∃ v, (app (T n a d) (V st a)).1.k = v := ⟨_, rfl⟩
  obtain ⟨q1, hq1⟩ : ∃ v, (app (T n a d) (V st a)).1.n = v := ⟨_, rfl⟩
  have eQ : (app (T n a d) (V st a)).1 = ⟨q0, q1⟩ := by rw [← hq0, ← hq1]
  obtain ⟨z0, hz0⟩ : ∃ v, (vfold p T V n d (a + 1)).1.k = v := ⟨_, rfl⟩
  obtain ⟨z1, hz1⟩ : ∃ v, (vfold p T V n d (a + 1)).1.n = v := ⟨_, rfl⟩
  have eZ : (Iv.meetV (vfold p T V n d a) (app (T n a d) (V st a))).1 = ⟨z0, z1⟩ := by rw [← HST.out, ← vfold_succ, ← hz0, ← hz1]
  have HZ0 := Lib.hid hz0
  have HZ1 := Lib.hid hz1
  have HAT : Hid (∀ w9, Kept [] wr w9 → Calls Tryd.prog 77 #[.agg #[.slice A1 n1 c1, .slice A2 n2 c2, .int .i64 mn, .int .i64 (f : Nat), .slice A3 n3 c3, .slice A4 n4 c4, .slice (some ⟨go, 0, none⟩) N cN], .int .i64 a, .int .i64 n, .int .i64 d] w9 fun e w' => e = .returned (.agg #[.int .i64 x0, .int .i64 x1, .int .i64 x2]) ∧ Below w9.heap.size w9 w') := fun w9 hk9 => rat_any w9 a n d (HT.out.keep (keptTrans hwr hk9)) hn hlt hd hf eX
  have HAP : Hid (∀ w9, Calls Tryd.prog 75 #[.agg #[.int .i64 x0, .int .i64 x1, .int .i64 x2], .agg #[.int .i64 u0, .int .i64 u1]] w9 fun e w' => e = .returned (.agg #[.int .i64 q0, .int .i64 q1]) ∧ Below w9.heap.size w9 w') := fun w9 => rappU_any _ _ _ _ _ _ _ _ _ eX eU eQ w9
  have HME : Hid (∀ w9, Calls Tryd.prog 76 #[.agg #[.int .i64 v0, .int .i64 v1], .agg #[.int .i64 q0, .int .i64 q1]] w9 fun e w' => e = .returned (.agg #[.int .i64 z0, .int .i64 z1]) ∧ Below w9.heap.size w9 w') := fun w9 => rmeetU_any _ _ _ _ _ _ _ _ eV eQ eZ w9
  have rS := (hwr.cell bS _ hlS (by simp)).trans hS1
  have rR := (hwr.cell go2 _ hgl2 (by simp)).trans hrow2
  have rA := (hwr.cell r2 _ hrl2 (by simp)).trans hcv.1
  have rB := (hwr.cell r2 _ hrl2 (by simp)).trans hcv.2
  have lS : bS < wr.heap.size := Nat.lt_of_lt_of_le hlS hwr.size
  have l2 : go2 < wr.heap.size := Nat.lt_of_lt_of_le hgl2 hwr.size
  have lr2 : r2 < wr.heap.size := Nat.lt_of_lt_of_le hrl2 hwr.size
  have hn1 : (n : Int) < (N : Int) := by omega
  have hst1 : (st : Int) < (N : Int) := by omega
  have ⟨LGr, CGr, FGr⟩ := BGr
  have HBGr := Lib.hid BGr
  clear hu0 hu1 hv0 hv1 hx0 hx1 hx2 hq0 hq1 hz0 hz1 eU eV eX eQ eZ BG hcv BGr
  go_upto_region 5 with fail
  refine wp_region_E 18 (fun w' => SX0 wr w') (by kernel_rfl) (by (exact kp0)) (fun hHeld => ?_)
  refine WE_tk 0 ?_
  refine WE_tk 1 ?_
  refine WE_tk 2 ?_
  refine WE_tk 3 ?_
  refine WE_tk 4 ?_
  refine WE_tk 6 ?_
  refine WE_tk 7 ?_
  refine WE_tk 8 ?_
  refine WE_tk 9 ?_
  refine WE_tk 10 ?_
  refine WE_tk 11 ?_
  refine WE_tk 12 ?_
  refine WE_tk 13 ?_
  refine WE_tk 14 ?_
  refine WE_tk 15 ?_
  refine WE_step 5 rfl (by kernel_rfl) (fun K hK => ?_)
  go_simp
  (first | (go_at_call 77; refine (HAT.out _ (by (exact kpt0))).mono ?_; rintro e w4 ⟨rfl, hb4⟩; have hk4 : Kept [] wr w4 := Kept.call (by (exact kpt0)) hb4) | (go_at_call 75; refine (HAP.out _).mono ?_; rintro e w5 ⟨rfl, hb5⟩; have hk5 : Kept [] wr w5 := Kept.call (by (exact kpt0)) hb5) | (go_at_call 76; refine (HME.out _).mono ?_; rintro e w6 ⟨rfl, hb6⟩; have hk6 : Kept [] wr w6 := Kept.call (by (exact kpt0)) hb6))
  (try go_wp2_with fail)
  refine hK.out _ _ ?_ (fun hHeld => ?_)
  · (exact kp0)
  clear hK K
  try simp only [Act.put, List.setIfInBounds_toArray, List.set_cons_zero, List.set_cons_succ]
  refine WE_step 16 rfl (by kernel_rfl) (fun K hK => ?_)
  go_simp
  (first | (go_at_call 77; refine (HAT.out _ (by (exact kpt0))).mono ?_; rintro e w4 ⟨rfl, hb4⟩; have hk4 : Kept [] wr w4 := Kept.call (by (exact kpt0)) hb4) | (go_at_call 75; refine (HAP.out _).mono ?_; rintro e w5 ⟨rfl, hb5⟩; have hk5 : Kept [] wr w5 := Kept.call (by (exact kpt0)) hb5) | (go_at_call 76; refine (HME.out _).mono ?_; rintro e w6 ⟨rfl, hb6⟩; have hk6 : Kept [] wr w6 := Kept.call (by (exact kpt0)) hb6))
  (try go_wp2_with fail)
  refine hK.out _ _ ?_ (fun hHeld => ?_)
  · (exact kp0)
  clear hK K
  try simp only [Act.put, List.setIfInBounds_toArray, List.set_cons_zero, List.set_cons_succ]
  refine WE_step 17 rfl (by kernel_rfl) (fun K hK => ?_)
  go_simp
  (first | (go_at_call 77; refine (HAT.out _ (by (exact kpt0))).mono ?_; rintro e w4 ⟨rfl, hb4⟩; have hk4 : Kept [] wr w4 := Kept.call (by (exact kpt0)) hb4) | (go_at_call 75; refine (HAP.out _).mono ?_; rintro e w5 ⟨rfl, hb5⟩; have hk5 : Kept [] wr w5 := Kept.call (by (exact kpt0)) hb5) | (go_at_call 76; refine (HME.out _).mono ?_; rintro e w6 ⟨rfl, hb6⟩; have hk6 : Kept [] wr w6 := Kept.call (by (exact kpt0)) hb6))
  (try go_wp2_with fail)
  refine hK.out _ _ ?_ (fun hHeld => ?_)
  · (exact kp0)
  clear hK K
  try simp only [Act.put, List.setIfInBounds_toArray, List.set_cons_zero, List.set_cons_succ]
  refine WE_last rfl (by kernel_rfl) (fun K hK => ?_)
  go_simp
  refine hK.out _ _ ?_
  clear hK K
  refine act_named (fun Z => Blk Z g [.int .i64 z0, .int .i64 z1] ∧ Kept [g] wr Z) ⟨Blk.set2 ((hk6.blk (by simp) HBGr.out).n rfl), ((keptNil hk6).set g 0 _ (.inl (by simp))).set g 1 _ (.inl (by simp))⟩ ?_
  rintro Z ⟨BZ, hkZ⟩
  have HBZ : Hid (Blk Z g [.int .i64 (vfold p T V n d (a + 1)).1.k, .int .i64 (vfold p T V n d (a + 1)).1.n]) := by show Blk _ _ _; rw [HZ0.out, HZ1.out]; exact BZ
  clear C0r F0r CGr FGr BZ
  go_wp2_with fail
  exact ⟨⟨a + 1, by omega, by go_num, hkr.next hkZ (fun y hy => .inl hy), HBZ⟩, by simp [intOf]; omega⟩
end Go.Proofs.YtincpmdldpakkaaDoor
