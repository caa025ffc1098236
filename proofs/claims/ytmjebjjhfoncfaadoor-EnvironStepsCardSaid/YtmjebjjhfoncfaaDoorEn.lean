/- The contracts of the reference's after and along. -/
import Derived.Test.YtmjebjjhfoncfaaDoorEj
namespace Go.Df
open Go.RowKit
/-- Nothing that was there has turned but block x. -/
abbrev SXk (W : World) (x : Nat) (w' : World) : Prop :=
  Kept [x] W w' ∧ (∀ b o, b < W.heap.size → b ≠ x → w'.cell? ⟨b, o, none⟩ = W.cell? ⟨b, o, none⟩) ∧ (∀ b o, b < W.heap.size → b ≠ x → w'.frozen? ⟨b, o, none⟩ = W.frozen? ⟨b, o, none⟩)
theorem SXk.of {W w' : World} {x : Nat} (h : Kept [x] W w') : SXk W x w' := ⟨h, fun b o hb hx => h.cell b o hb (by simpa using hx), fun b o hb hx => h.frozen b o hb (by simpa using hx)⟩
theorem Xps.cells {w0 w : World} {A : Option Addr} {n : Nat} {l : List Sp.Xp} (h : Xps w0 A n l) (hb : Below w0.heap.size w0 w) {j : Nat} (hj : j < n) {xi xo xk xb xc : Int} (e : Sp.gx l j = ⟨xi, xo, xk, xb, xc⟩) :
    ∃ b o, A = some ⟨b, o, none⟩ ∧ b < w0.heap.size ∧ w.cell? ⟨b, o + j * 5, none⟩ = some (.int .i64 xi) ∧ w.cell? ⟨b, o + j * 5 + 1, none⟩ = some (.int .i64 xo) ∧ w.cell? ⟨b, o + j * 5 + 2, none⟩ = some (.int .i64 xk) ∧ w.cell? ⟨b, o + j * 5 + 3, none⟩ = some (.int .i64 xb) ∧ w.cell? ⟨b, o + j * 5 + 4, none⟩ = some (.int .i64 xc) := by
  obtain ⟨b, o, rfl, hl, hc⟩ := h.2 (by omega)
  obtain ⟨h1, h2, h3, h4, h5⟩ := hc j hj
  rw [e] at h1 h2 h3 h4 h5
  exact ⟨b, o, rfl, hl, (hb.cell (p := ⟨b, _, none⟩) hl).trans h1, (hb.cell (p := ⟨b, _, none⟩) hl).trans h2, (hb.cell (p := ⟨b, _, none⟩) hl).trans h3, (hb.cell (p := ⟨b, _, none⟩) hl).trans h4, (hb.cell (p := ⟨b, _, none⟩) hl).trans h5⟩
theorem Fls.row {w0 w : World} {A : Option Addr} {n : Nat} {ls : List (List Sp.Xp)} (h : Fls w0 A n ls) (hb : Below w0.heap.size w0 w) {j : Nat} (hj : j < n) :
    ∃ b o Ai ni ci, A = some ⟨b, o, none⟩ ∧ b < w0.heap.size ∧ w.cell? ⟨b, o + j, none⟩ = some (.slice Ai ni ci) ∧ Xps w0 Ai ni (Sp.gl ls j) := by
  obtain ⟨b, o, rfl, hl, hc⟩ := h.2 (by omega)
  obtain ⟨Ai, ni, ci, h1, h2⟩ := hc j hj
  exact ⟨b, o, Ai, ni, ci, rfl, hl, (hb.cell (p := ⟨b, _, none⟩) hl).trans h1, h2⟩
theorem Eds.cell2 {w0 w : World} {A : Option Addr} {n : Nat} {es : List Sp.Ed} (h : Eds w0 A n es) (hb : Below w0.heap.size w0 w) {j : Nat} (hj : j < n) :
    ∃ b o, A = some ⟨b, o, none⟩ ∧ b < w0.heap.size ∧ w.cell? ⟨b, o + j * 4 + 1, none⟩ = some (.int .i64 (ge es j).b) := by
  obtain ⟨b, o, rfl, hl, hc⟩ := h.2 (by omega)
  exact ⟨b, o, rfl, hl, (hb.cell (p := ⟨b, _, none⟩) hl).trans (hc j hj).2.1⟩
end Go.Df
namespace Go.Proofs.YtmjebjjhfoncfaaDoor
open Go.RowKit Go.Df
attribute [local go_sem ↓] Go.wp_at_zero Go.wp_at_succ

set_option maxRecDepth 100000 in
set_option maxHeartbeats 40000000 in
theorem rafter_any (A1 A2 A3 A4 : Option Addr) (n1 c1 n2 c2 n3 c3 n4 c4 gl F cl k : Nat) (mn : Int) (es : List Sp.Ed) (ls : List (List Sp.Xp)) (sd : List Sp.Vs) (f : Nat → Xf.V) (w : World) (he : Eds w A2 n2 es) (hf : Fls w A3 n3 ls) (hs : Vss w A4 n4 sd) (hn4 : n4 ≤ 9223372036854775806) (hv : Vals w gl F f)
    (hF1 : 1 ≤ F) (hF2 : F ≤ 1024) (hk3 : k < n3) (hk2 : k < n2) (hpl : (Sp.gl ls k).length ≤ 8192) (hpr : ∀ j, j < (Sp.gl ls k).length → 0 ≤ (Sp.gx (Sp.gl ls k) j).i ∧ (Sp.gx (Sp.gl ls k) j).i < F ∧ 0 ≤ (Sp.gx (Sp.gl ls k) j).o ∧ (Sp.gx (Sp.gl ls k) j).o < F)
    (hsd : ∀ j, j < n4 → 0 ≤ (Sp.gs sd j).f ∧ (Sp.gs sd j).f < F) :
    Calls Tryd.prog 49 #[.agg #[.slice A1 n1 c1, .slice A2 n2 c2, .int .i64 mn, .int .i64 F, .slice A3 n3 c3, .slice A4 n4 c4], .int .i64 k, .slice (some ⟨gl, 0, none⟩) F cl] w fun e w' =>
      ∃ g c, e = .returned (.slice (some ⟨g, 0, none⟩) F c) ∧ Vals w' g F (afterS Xf.rmeetV Xf.rapply sd (ge es k).b (Sp.gl ls k) f) ∧ w.heap.size ≤ g ∧ F ≤ c ∧ Below w.heap.size w w' := by
  have HE := Lib.hid he
  have HF := Lib.hid hf
  have HS := Lib.hid hs
  have HV := Lib.hid hv
  have HSD := Lib.hid hsd
  have HPR := Lib.hid hpr
  have hgl := hv.lt
  clear he hf hs hv hsd hpr
  go_enter Tryd.func49, Tryd.ntmps49
  go_upto_region 1 with fail
  refine wp_named (fun W => ∃ b0, w.heap.size = b0 ∧ Blk W b0 [.slice A1 n1 c1, .slice A2 n2 c2, .int .i64 mn, .int .i64 F, .slice A3 n3 c3, .slice A4 n4 c4] ∧ Below w.heap.size w W) ⟨_, rfl, ?_, ?_⟩ ?_
  · exact Blk.new _ _ _ _ (by first | rfl | simp)
  · go_grown
  rintro W ⟨b0, e0, B0, hB⟩
  rw [e0]
  have G0 : w.heap.size ≤ b0 := by omega
  clear e0
  have ⟨L0, C0, F0⟩ := B0
  have hkW : Kept [] w W := (Kept.refl _ _).call hB
  have hb0l : b0 ≠ gl := by omega
  have VW := Lib.hid (HV.out.kept hkW (by simp))
  go_wp2_with (go_at_call 35; refine (tops_any F _ hF1 hF2).mono ?_; rintro e w1 ⟨g, c, rfl, hv1, hg1, hc1, hb1⟩)
  have hk1 : Kept [] W w1 := (Kept.refl _ _).call hb1
  have V1 := Lib.hid hv1
  have hb0W : b0 < W.heap.size := L0
  have hgg : g ≠ gl := by have := hkW.size; omega
  have hb0g : b0 ≠ g := by omega
  clear hv1
  obtain ⟨b3, o3, Ai, ni, ci, rfl, hl3, hc3, hxp⟩ := HF.out.row (hkW.call hb1).toBelow hk3
  have HX := Lib.hid hxp
  have HNI := Lib.hid hxp.1
  have hni : ni ≤ 8192 := by have := hxp.1; omega
  clear hxp hpl
  have hb3g : b3 ≠ g := by have := hkW.size; omega
  have hk3' : (k : Int) < (n3 : Int) := by omega
  have hk2' : (k : Int) < (n2 : Int) := by omega
  go_loopw [8] (fun i wr => ∃ j : Nat, j ≤ ni ∧ i = .int .i64 j ∧ Kept [g] w1 wr ∧ Hid (Vals wr g F (prS Xf.rmeetV Xf.rapply (Sp.gl ls k) f j))) (fun i _ => ni - (intOf i).toNat)
  case atStart => exact ⟨0, Nat.zero_le _, rfl, Kept.refl _ _, V1⟩
  case round =>
    obtain ⟨j, hj, rfl, hkr, vr⟩ := hrel
    have hkwr1 : Kept [g] w wr := ((Kept.refl [g] w).next (hkW.call hb1) (by simp)).next hkr (by simp)
    have hkwr : Kept [] w wr := kept_fresh (hkW.call hb1) hkr (by have := hkW.size; simp; omega)
    have hBr : Below w.heap.size w wr := hkwr.toBelow
    have BR : Blk wr b0 _ := hkr.blk (by simpa using hb0g) (hk1.blk (by simp) B0)
    have ⟨LR, CR, FR⟩ := BR
    clear C0 F0
    have r3 : wr.cell? ⟨b3, o3 + k, none⟩ = some (.slice Ai ni ci) := (hkr.cell b3 _ (Nat.lt_of_lt_of_le hl3 (hkW.call hb1).size) (by simpa using hb3g)).trans hc3
    have hl3r : b3 < wr.heap.size := Nat.lt_of_lt_of_le hl3 hkwr.size
    by_cases hlt : j < ni
    case neg =>
      obtain rfl : j = ni := by omega
      obtain ⟨b2, o2, rfl, hl2, hc2⟩ := HE.out.cell2 hBr hk2
      obtain ⟨nd, hnd⟩ : ∃ nd, (ge es k).b = nd := ⟨_, rfl⟩
      rw [hnd] at hc2
      have HND := Lib.hid hnd
      clear hnd
      have hb2g : b2 ≠ g := by have := hkW.size; omega
      have hl2r : b2 < wr.heap.size := Nat.lt_of_lt_of_le hl2 hkwr.size
      have hEq : Hid (metS Xf.rmeetV sd nd (prS Xf.rmeetV Xf.rapply (Sp.gl ls k) f j) n4 = afterS Xf.rmeetV Xf.rapply sd nd (Sp.gl ls k) f) := by
        show _ = _
        unfold afterS
        rw [HNI.out, HS.out.1]
      have hgw : w.heap.size ≤ g := by have := hkW.size; omega
      go_upto_region 7 with fail
      refine wp_region_E 10 (fun w' => SXk wr g w') (by kernel_rfl) (by (first | (with_reducible assumption) | exact SXk.of (Kept.refl _ _).drew | exact SXk.of (hHeld.1.next (by assumption) (by simp)))) (fun hHeld => ?_)
      refine WE_take 0 (v := ?_) rfl (by kernel_rfl) (fun _ _ _ h => h) (Or.inl ⟨by rfl, ?_⟩) (by assumption) ?_; rotate_left; (· intro w9 hSw; (try dsimp only at hSw); go_simp; try with_reducible rfl); (try simp only [Act.put, List.setIfInBounds_toArray, List.set_cons_zero, List.set_cons_succ])
      refine WE_take 1 (v := ?_) rfl (by kernel_rfl) (fun _ _ _ h => h) (Or.inl ⟨by rfl, ?_⟩) (by assumption) ?_; rotate_left; (· intro w9 hSw; (try dsimp only at hSw); go_simp; try with_reducible rfl); (try simp only [Act.put, List.setIfInBounds_toArray, List.set_cons_zero, List.set_cons_succ])
      refine WE_take 2 (v := ?_) rfl (by kernel_rfl) (fun _ _ _ h => h) (Or.inl ⟨by rfl, ?_⟩) (by assumption) ?_; rotate_left; (· intro w9 hSw; (try dsimp only at hSw); go_simp; try with_reducible rfl); (try simp only [Act.put, List.setIfInBounds_toArray, List.set_cons_zero, List.set_cons_succ])
      refine WE_take 3 (v := ?_) rfl (by kernel_rfl) (fun _ _ _ h => h) (Or.inl ⟨by rfl, ?_⟩) (by assumption) ?_; rotate_left; (· intro w9 hSw; (try dsimp only at hSw); go_simp; try with_reducible rfl); (try simp only [Act.put, List.setIfInBounds_toArray, List.set_cons_zero, List.set_cons_succ])
      refine WE_take 4 (v := ?_) rfl (by kernel_rfl) (fun _ _ _ h => h) (Or.inl ⟨by rfl, ?_⟩) (by assumption) ?_; rotate_left; (· intro w9 hSw; (try dsimp only at hSw); go_simp; try with_reducible rfl); (try simp only [Act.put, List.setIfInBounds_toArray, List.set_cons_zero, List.set_cons_succ])
      refine WE_take 5 (v := ?_) rfl (by kernel_rfl) (fun _ _ _ h => h) (Or.inl ⟨by rfl, ?_⟩) (by assumption) ?_; rotate_left; (· intro w9 hSw; (try dsimp only at hSw); go_simp; try with_reducible rfl); (try simp only [Act.put, List.setIfInBounds_toArray, List.set_cons_zero, List.set_cons_succ])
      refine WE_take 6 (v := ?_) rfl (by kernel_rfl) (fun _ _ _ h => h) (Or.inl ⟨by rfl, ?_⟩) (by assumption) ?_; rotate_left; (· intro w9 hSw; (try dsimp only at hSw); go_simp; try with_reducible rfl); (try simp only [Act.put, List.setIfInBounds_toArray, List.set_cons_zero, List.set_cons_succ])
      refine WE_take 7 (v := ?_) rfl (by kernel_rfl) (fun _ _ _ h => h) (Or.inl ⟨by rfl, ?_⟩) (by assumption) ?_; rotate_left; (· intro w9 hSw; (try dsimp only at hSw); go_simp; try with_reducible rfl); (try simp only [Act.put, List.setIfInBounds_toArray, List.set_cons_zero, List.set_cons_succ])
      refine WE_take 8 (v := ?_) rfl (by kernel_rfl) (fun _ _ _ h => h) (Or.inl ⟨by rfl, ?_⟩) (by assumption) ?_; rotate_left; (· intro w9 hSw; (try dsimp only at hSw); go_simp; try with_reducible rfl); (try simp only [Act.put, List.setIfInBounds_toArray, List.set_cons_zero, List.set_cons_succ])
      refine WE_step 9 rfl (by kernel_rfl) (fun K hK => ?_)
      go_simp
      (go_at_call 48; refine (rmet_any A1 _ _ A4 n1 c1 n2 c2 n3 c3 n4 c4 g F c mn F nd sd (prS Xf.rmeetV Xf.rapply (Sp.gl ls k) f j) w _ HS.out hn4 (hkwr.drew).toBelow hgw (vr.out.kept ((Kept.refl [] _).drew) (by simp)) HSD.out).mono ?_; rintro e w5 ⟨rfl, hv5, hk5⟩; have V5 := Lib.hid hv5; clear hv5)
      (try go_wp2_with fail)
      refine hK.out _ _ ?_ (fun hHeld => ?_)
      · (first | (with_reducible assumption) | exact SXk.of (Kept.refl _ _).drew | exact SXk.of (hHeld.1.next (by assumption) (by simp)))
      clear hK K
      try simp only [Act.put, List.setIfInBounds_toArray, List.set_cons_zero, List.set_cons_succ]
      refine WE_last rfl (by kernel_rfl) (fun K hK => ?_)
      go_simp
      refine hK.out _ _ ?_
      clear hK K
      go_wp2_with fail
      go_ret
      refine ⟨g, c, rfl, by rw [HND.out, ← hEq.out]; exact V5.out, hgw, hc1, ?_⟩
      exact (kept_fresh hkwr hHeld.1 (by simpa using hgw)).toBelow
    obtain ⟨xi, xo, xk, xb, xc, en⟩ : ∃ xi xo xk xb xc, Sp.gx (Sp.gl ls k) j = ⟨xi, xo, xk, xb, xc⟩ := ⟨_, _, _, _, _, rfl⟩
    obtain ⟨b, o, rfl, hl, h1, h2, h3, h4, h5⟩ := HX.out.cells hBr hlt en
    have hxr := HPR.out j (by rw [HNI.out]; exact hlt)
    rw [en] at hxr
    dsimp only at hxr
    obtain ⟨x, rfl⟩ := Int.eq_ofNat_of_zero_le hxr.1
    obtain ⟨y, rfl⟩ := Int.eq_ofNat_of_zero_le hxr.2.2.1
    have hx : x < F := by omega
    have hy : y < F := by omega
    have hx1 : (x : Int) < (F : Int) := by omega
    have hy1 : (y : Int) < (F : Int) := by omega
    have hj1 : (j : Int) < (ni : Int) := by omega
    clear hxr
    have hlr : b < wr.heap.size := Nat.lt_of_lt_of_le hl hkwr.size
    have HEN := Lib.hid en
    clear en
    go_upto_region 6 with fail
    refine wp_named (fun V => ∃ gb, wr.heap.size = gb ∧ Blk V gb [.int .i64 x, .int .i64 y, .int .i64 xk, .int .i64 xb, .int .i64 xc] ∧ Kept [] wr V) ⟨_, rfl, Blk.new _ _ _ _ rfl, (Kept.refl _ _).alloc _⟩ ?_
    rintro V ⟨gb, eg, Bg, hkV⟩
    rw [eg]
    have ⟨LG, CG, FG⟩ := Bg
    have VV := Lib.hid (vr.out.kept hkV (by simp))
    have LV := Lib.hid (HV.out.kept (keptTrans hkwr hkV) (by simp))
    have hgbg : gb ≠ g := by have := vr.out.lt; omega
    have hgbl : gb ≠ gl := by have := hkwr.size; omega
    clear h1 h2 h3 h4 h5 eg CR FR r3
    obtain ⟨u, hu⟩ : ∃ u, prS Xf.rmeetV Xf.rapply (Sp.gl ls k) f j y = u := ⟨_, rfl⟩
    obtain ⟨z, hz⟩ : ∃ z, f x = z := ⟨_, rfl⟩
    have v0 := VV.out.c0 y hy
    have v1 := VV.out.c1 y hy
    have l0 := LV.out.c0 x hx
    have l1 := LV.out.c1 x hx
    rw [hu] at v0 v1
    rw [hz] at l0 l1
    obtain ⟨uk, un⟩ := u
    obtain ⟨zk, zn⟩ := z
    have f0 := VV.out.fz
    have hgr := VV.out.lt
    have hlr2 := LV.out.lt
    have HU := Lib.hid hu
    have HZ := Lib.hid hz
    clear hu hz
    obtain ⟨ak, an, ha⟩ : ∃ ak an, Xf.rapply ⟨xk, xb, xc⟩ ⟨zk, zn⟩ = ⟨ak, an⟩ := ⟨_, _, rfl⟩
    have HA := Lib.hid ha
    clear ha
    refine wp_region_E 18 (fun w' => SX0 V w') (by kernel_rfl) (by (repeat' first | (with_reducible assumption) | (with_reducible exact SX0.init _) | (with_reducible exact SX0.refl _) | (with_reducible refine SX0.alloc ?_ _) | (with_reducible refine SX0.call ?_ (by assumption)) | (with_reducible refine SX0.set ?_ _ _ _ ?_) | (with_reducible refine SX0.drew ?_) | (simp; done) | omega | (simp; omega))) (fun hHeld => ?_)
    refine WE_take 0 (v := ?_) rfl (by kernel_rfl) (fun _ _ _ h => h) (Or.inl ⟨by rfl, ?_⟩) (by assumption) ?_; rotate_left; (· intro w9 hSw; (try dsimp only at hSw); go_simp; try with_reducible rfl); (try simp only [Act.put, List.setIfInBounds_toArray, List.set_cons_zero, List.set_cons_succ])
    refine WE_take 1 (v := ?_) rfl (by kernel_rfl) (fun _ _ _ h => h) (Or.inl ⟨by rfl, ?_⟩) (by assumption) ?_; rotate_left; (· intro w9 hSw; (try dsimp only at hSw); go_simp; try with_reducible rfl); (try simp only [Act.put, List.setIfInBounds_toArray, List.set_cons_zero, List.set_cons_succ])
    refine WE_take 2 (v := ?_) rfl (by kernel_rfl) (fun _ _ _ h => h) (Or.inl ⟨by rfl, ?_⟩) (by assumption) ?_; rotate_left; (· intro w9 hSw; (try dsimp only at hSw); go_simp; try with_reducible rfl); (try simp only [Act.put, List.setIfInBounds_toArray, List.set_cons_zero, List.set_cons_succ])
    refine WE_take 3 (v := ?_) rfl (by kernel_rfl) (fun _ _ _ h => h) (Or.inl ⟨by rfl, ?_⟩) (by assumption) ?_; rotate_left; (· intro w9 hSw; (try dsimp only at hSw); go_simp; try with_reducible rfl); (try simp only [Act.put, List.setIfInBounds_toArray, List.set_cons_zero, List.set_cons_succ])
    refine WE_take 4 (v := ?_) rfl (by kernel_rfl) (fun _ _ _ h => h) (Or.inl ⟨by rfl, ?_⟩) (by assumption) ?_; rotate_left; (· intro w9 hSw; (try dsimp only at hSw); go_simp; try with_reducible rfl); (try simp only [Act.put, List.setIfInBounds_toArray, List.set_cons_zero, List.set_cons_succ])
    refine WE_take 5 (v := ?_) rfl (by kernel_rfl) (fun _ _ _ h => h) (Or.inl ⟨by rfl, ?_⟩) (by assumption) ?_; rotate_left; (· intro w9 hSw; (try dsimp only at hSw); go_simp; try with_reducible rfl); (try simp only [Act.put, List.setIfInBounds_toArray, List.set_cons_zero, List.set_cons_succ])
    refine WE_take 6 (v := ?_) rfl (by kernel_rfl) (fun _ _ _ h => h) (Or.inl ⟨by rfl, ?_⟩) (by assumption) ?_; rotate_left; (· intro w9 hSw; (try dsimp only at hSw); go_simp; try with_reducible rfl); (try simp only [Act.put, List.setIfInBounds_toArray, List.set_cons_zero, List.set_cons_succ])
    refine WE_take 7 (v := ?_) rfl (by kernel_rfl) (fun _ _ _ h => h) (Or.inl ⟨by rfl, ?_⟩) (by assumption) ?_; rotate_left; (· intro w9 hSw; (try dsimp only at hSw); go_simp; try with_reducible rfl); (try simp only [Act.put, List.setIfInBounds_toArray, List.set_cons_zero, List.set_cons_succ])
    refine WE_take 8 (v := ?_) rfl (by kernel_rfl) (fun _ _ _ h => h) (Or.inl ⟨by rfl, ?_⟩) (by assumption) ?_; rotate_left; (· intro w9 hSw; (try dsimp only at hSw); go_simp; try with_reducible rfl); (try simp only [Act.put, List.setIfInBounds_toArray, List.set_cons_zero, List.set_cons_succ])
    refine WE_take 9 (v := ?_) rfl (by kernel_rfl) (fun _ _ _ h => h) (Or.inl ⟨by rfl, ?_⟩) (by assumption) ?_; rotate_left; (· intro w9 hSw; (try dsimp only at hSw); go_simp; try with_reducible rfl); (try simp only [Act.put, List.setIfInBounds_toArray, List.set_cons_zero, List.set_cons_succ])
    refine WE_take 10 (v := ?_) rfl (by kernel_rfl) (fun _ _ _ h => h) (Or.inl ⟨by rfl, ?_⟩) (by assumption) ?_; rotate_left; (· intro w9 hSw; (try dsimp only at hSw); go_simp; try with_reducible rfl); (try simp only [Act.put, List.setIfInBounds_toArray, List.set_cons_zero, List.set_cons_succ])
    refine WE_take 11 (v := ?_) rfl (by kernel_rfl) (fun _ _ _ h => h) (Or.inl ⟨by rfl, ?_⟩) (by assumption) ?_; rotate_left; (· intro w9 hSw; (try dsimp only at hSw); go_simp; try with_reducible rfl); (try simp only [Act.put, List.setIfInBounds_toArray, List.set_cons_zero, List.set_cons_succ])
    refine WE_take 12 (v := ?_) rfl (by kernel_rfl) (fun _ _ _ h => h) (Or.inl ⟨by rfl, ?_⟩) (by assumption) ?_; rotate_left; (· intro w9 hSw; (try dsimp only at hSw); go_simp; try with_reducible rfl); (try simp only [Act.put, List.setIfInBounds_toArray, List.set_cons_zero, List.set_cons_succ])
    refine WE_take 13 (v := ?_) rfl (by kernel_rfl) (fun _ _ _ h => h) (Or.inl ⟨by rfl, ?_⟩) (by assumption) ?_; rotate_left; (· intro w9 hSw; (try dsimp only at hSw); go_simp; try with_reducible rfl); (try simp only [Act.put, List.setIfInBounds_toArray, List.set_cons_zero, List.set_cons_succ])
    refine WE_take 14 (v := ?_) rfl (by kernel_rfl) (fun _ _ _ h => h) (Or.inl ⟨by rfl, ?_⟩) (by assumption) ?_; rotate_left; (· intro w9 hSw; (try dsimp only at hSw); go_simp; try with_reducible rfl); (try simp only [Act.put, List.setIfInBounds_toArray, List.set_cons_zero, List.set_cons_succ])
    refine WE_step 15 rfl (by kernel_rfl) (fun K hK => ?_)
    go_simp
    (first | (go_at_call 75; refine (rapply_any xk xb xc zk zn _).mono ?_; rw [HA.out]; rintro e w5 ⟨rfl, hb5⟩) | (go_at_call 58; refine (rmeetV_any uk un ak an _).mono ?_; rintro e w6 ⟨rfl, hb6⟩))
    (try go_wp2_with fail)
    refine hK.out _ _ ?_ (fun hHeld => ?_)
    · (repeat' first | (with_reducible assumption) | (with_reducible exact SX0.init _) | (with_reducible exact SX0.refl _) | (with_reducible refine SX0.alloc ?_ _) | (with_reducible refine SX0.call ?_ (by assumption)) | (with_reducible refine SX0.set ?_ _ _ _ ?_) | (with_reducible refine SX0.drew ?_) | (simp; done) | omega | (simp; omega))
    clear hK K
    try simp only [Act.put, List.setIfInBounds_toArray, List.set_cons_zero, List.set_cons_succ]
    refine WE_step 16 rfl (by kernel_rfl) (fun K hK => ?_)
    go_simp
    (first | (go_at_call 75; refine (rapply_any xk xb xc zk zn _).mono ?_; rw [HA.out]; rintro e w5 ⟨rfl, hb5⟩) | (go_at_call 58; refine (rmeetV_any uk un ak an _).mono ?_; rintro e w6 ⟨rfl, hb6⟩))
    (try go_wp2_with fail)
    refine hK.out _ _ ?_ (fun hHeld => ?_)
    · (repeat' first | (with_reducible assumption) | (with_reducible exact SX0.init _) | (with_reducible exact SX0.refl _) | (with_reducible refine SX0.alloc ?_ _) | (with_reducible refine SX0.call ?_ (by assumption)) | (with_reducible refine SX0.set ?_ _ _ _ ?_) | (with_reducible refine SX0.drew ?_) | (simp; done) | omega | (simp; omega))
    clear hK K
    try simp only [Act.put, List.setIfInBounds_toArray, List.set_cons_zero, List.set_cons_succ]
    refine WE_take 17 (v := ?_) rfl (by kernel_rfl) (fun _ _ _ h => h) (Or.inl ⟨by rfl, ?_⟩) (by assumption) ?_; rotate_left; (· intro w9 hSw; (try dsimp only at hSw); go_simp; try with_reducible rfl); (try simp only [Act.put, List.setIfInBounds_toArray, List.set_cons_zero, List.set_cons_succ])
    refine WE_last rfl (by kernel_rfl) (fun K hK => ?_)
    go_simp
    refine hK.out _ _ ?_
    clear hK K
    have hk6 : Kept [] V w6 := hHeld.1
    have V6 := Lib.hid (VV.out.kept hk6 (by simp))
    have hX : Hid ((fun i => if i = y then Xf.rmeetV ⟨uk, un⟩ ⟨ak, an⟩ else prS Xf.rmeetV Xf.rapply (Sp.gl ls k) f j i) = prS Xf.rmeetV Xf.rapply (Sp.gl ls k) f (j + 1)) := by
      show _ = _
      rw [← pr_one, HEN.out]
      dsimp only
      simp only [Int.toNat_natCast]
      rw [HU.out, HZ.out, HA.out]
    go_wp2_with fail
    exact ⟨⟨j + 1, by omega, by go_num, (((hkr.next hkV (by simp)).next hk6 (by simp)).set g _ _ (.inl (by simp))).set g _ _ (.inl (by simp)), Lib.hid (hX.out ▸ V6.out.put y _ hy)⟩, by simp [intOf]; omega⟩
end Go.Proofs.YtmjebjjhfoncfaaDoor
