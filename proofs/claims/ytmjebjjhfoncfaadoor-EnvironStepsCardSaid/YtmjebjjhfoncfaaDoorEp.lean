/- The contract of the program's along (printed by genEp.py). -/
import Derived.Test.YtmjebjjhfoncfaaDoorEm
import Derived.Test.YtmjebjjhfoncfaaDoorEo
namespace Go.Proofs.YtmjebjjhfoncfaaDoor
open Go.RowKit Go.Df
attribute [local go_sem ↓] Go.wp_at_zero Go.wp_at_succ

set_option maxRecDepth 100000 in
set_option maxHeartbeats 40000000 in
theorem along_any (A1 A2 A3 A4 A5 : Option Addr) (n1 c1 n2 c2 n3 c3 n4 c4 n5 c5 F : Nat) (mn : Int) (ns : List Sp.Nd) (es : List Sp.Ed) (ls : List (List Sp.Xp)) (sd : List Sp.Vs) (path : List Int) (w : World) (he : Eds w A2 n2 es) (hf : Fls w A3 n3 ls) (hs : Vss w A4 n4 sd) (hp : Ints w A5 n5 path) (hn4 : n4 < 4611686018427387904) (hc4 : n4 ≤ c4)
    (hok : PrOk ns es mn F ls sd) (hpl : path.length ≤ 4096) (hpi : ∀ j, j < path.length → 0 ≤ gi path j ∧ gi path j < es.length) :
    Calls Tryd.prog 23 #[.agg #[.slice A1 n1 c1, .slice A2 n2 c2, .int .i64 mn, .int .i64 F, .slice A3 n3 c3, .slice A4 n4 c4], .slice A5 n5 c5] w fun e w' =>
      ∃ g c, e = .returned (.slice (some ⟨g, 0, none⟩) F c) ∧ Vals w' g F (runJ Xf.meetV Xf.apply es ls sd mn path path.length) ∧ w.heap.size ≤ g ∧ F ≤ c ∧ Below w.heap.size w w' := by
  have HE := Lib.hid he
  have HF := Lib.hid hf
  have HS := Lib.hid hs
  have HP := Lib.hid hp
  have HPN := Lib.hid hp.1
  have HSL := Lib.hid hs.1
  have HPI := Lib.hid hpi
  have HO := Lib.hid hok
  have hF1 : 1 ≤ F := by have := hok.f1; omega
  have hF2 : F ≤ 1024 := by have := hok.f2; omega
  have HSD : Hid (∀ j, j < n4 → 0 ≤ (Sp.gs sd j).f ∧ (Sp.gs sd j).f < F) := fun j hj => by have := HO.out.sin j (by rw [HS.out.1]; exact hj); omega
  have HSR : Hid (∀ i j, i ≤ j → j < n4 → (Sp.gs sd i).n ≤ (Sp.gs sd j).n) := fun i j h1 h2 => HO.out.le j h1 (by rw [HS.out.1]; exact h2)
  have hn5 : n5 ≤ 4096 := by have := hp.1; omega
  clear he hf hs hp hpi hok hpl
  go_enter Tryd.func23, Tryd.ntmps23
  go_upto_region 1 with fail
  refine wp_named (fun W => ∃ b0, w.heap.size = b0 ∧ Blk W b0 [.slice A1 n1 c1, .slice A2 n2 c2, .int .i64 mn, .int .i64 F, .slice A3 n3 c3, .slice A4 n4 c4] ∧ Below w.heap.size w W) ⟨_, rfl, ?_, ?_⟩ ?_
  · exact Blk.new _ _ _ _ (by first | rfl | simp)
  · go_grown
  rintro W ⟨b0, e0, B0, hB⟩
  rw [e0]
  have G0 : w.heap.size ≤ b0 := by omega
  clear e0
  have ⟨L0, C0, F0⟩ := B0
  have hkW : Kept [] w W := (Kept.refl _ _).call hB
  have hWs := hkW.size
  have hF0 : (0 : Int) < (F : Int) := by omega
  go_upto_region 2 with (go_at_call 34; refine (folder_any F _ hF2).mono ?_; rintro e w1 ⟨g, hb, rfl, hv1, hbb1, hgW, hhW, hne, hb1⟩)
  have V1 := Lib.hid hv1
  have BB1 := Lib.hid hbb1
  have hk1 : Kept [] W w1 := (Kept.refl _ _).call hb1
  clear hv1 hbb1
  go_upto_region 3 with (go_at_call 56; refine (fold_any g hb F F 0 2 0 _ _ V1.out BB1.out (by omega)).mono ?_; rintro e w2 ⟨rfl, hv2, hk2⟩; have V2 := Lib.hid hv2; clear hv2)
  have hkW2 : Kept [] W w2 := kept_fresh hk1 hk2 (by simpa using hgW)
  have hkw2 : Kept [] w w2 := keptTrans hkW hkW2
  have V3 : Hid (Vals w2 g F bot0) := by
    show Vals _ _ _ _
    have h0 : (fun i => if i = 0 then Xf.meetV ((fun _ => ⟨0, 0⟩ : Nat → Xf.V) 0) ⟨2, 0⟩ else (fun _ => ⟨0, 0⟩ : Nat → Xf.V) i) = bot0 := by
      funext i
      unfold bot0
      split
      · rfl
      · rfl
    rw [← h0]
    exact V2.out
  have B3 := Lib.hid (hk2.blk (by simpa using hne) BB1.out)
  have ⟨L2, C2, F2⟩ := hkW2.blk (by simp) B0
  clear C0 F0 V1 BB1 V2
  go_wp2_with (go_at_call 46; refine (seedsAt_any A1 _ _ A4 n1 c1 n2 c2 n3 c3 n4 c4 mn F mn sd _ (HS.out.later (hkw2.toBelow)) hn4 hc4 HSR.out).mono ?_; rintro e w3 ⟨a, m, A', c', rfl, hAM, ha1, ha2, ha3, ha4, hb3⟩; have HA1 := Lib.hid ha1; have HA2 := Lib.hid ha2; have HA3 := Lib.hid ha3; have HA4 := Lib.hid ha4; clear ha1 ha2 ha3 ha4)
  clear C2 F2
  have hkS : Kept [] W w3 := hkW2.call hb3
  have VS := Lib.hid (V3.out.later hb3)
  have BS := Lib.hid (B3.out.later hb3)
  clear V3 B3
  have HST : Hid (metS Xf.meetV sd mn bot0 (a + 0) = bot0) := by
    show _ = _
    rw [met_skip (a := 0) (a + 0) (Nat.zero_le _) (fun x _ h2 => HA1.out x (by omega))]
    rfl
  go_loopw [31] (fun i wq => ∃ q : Nat, q ≤ m ∧ i = .int .i64 q ∧ Kept [] W wq ∧ Hid (Vals wq g F (metS Xf.meetV sd mn bot0 (a + q))) ∧ Hid (Blk wq hb [.slice (some ⟨g, 0, none⟩) F F])) (fun i _ => m - (intOf i).toNat)
  case atStart => exact ⟨0, Nat.zero_le _, rfl, hkS, Lib.hid (by rw [HST.out]; exact VS.out), BS⟩
  case round =>
    rename World => wq
    obtain ⟨q, hq, rfl, hkq, vq, bq⟩ := hrel
    have ⟨LQ, CQ, FQ⟩ := hkq.blk (by simp) B0
    have hkwq : Kept [] w wq := keptTrans hkW hkq
    clear HST VS BS hkS
    by_cases hltq : q < m
    · obtain ⟨bs, os, hA4, rfl⟩ := HA4.out (by omega)
      obtain ⟨bs', os', e', hls, hcs⟩ := HS.out.2 (by omega)
      rw [hA4] at e'
      injection e' with e'
      injection e' with e1 e2
      subst e1 e2
      obtain ⟨h1, h2, h3, h4⟩ := hcs (a + q) (by omega)
      have hsf := HSD.out (a + q) (by omega)
      have hON := met_one (me := Xf.meetV) (f := bot0) (HA2.out (a + q) (by omega) (by omega))
      obtain ⟨sn, sf, sk, sv, en⟩ : ∃ sn sf sk sv, Sp.gs sd (a + q) = ⟨sn, sf, sk, sv⟩ := ⟨_, _, _, _, rfl⟩
      rw [en] at h1 h2 h3 h4 hsf hON
      dsimp only at h1 h2 h3 h4 hsf hON
      obtain ⟨x, rfl⟩ := Int.eq_ofNat_of_zero_le hsf.1
      have hx : x < F := by omega
      simp only [Int.toNat_natCast] at hON
      have HON := Lib.hid hON
      have r1 : wq.cell? ⟨bs, os + a * 4 + q * 4, none⟩ = some (.int .i64 sn) := by rw [show os + a * 4 + q * 4 = os + (a + q) * 4 by omega]; exact (hkwq.cell bs _ hls (by simp)).trans h1
      have r2 : wq.cell? ⟨bs, os + a * 4 + q * 4 + 1, none⟩ = some (.int .i64 x) := by rw [show os + a * 4 + q * 4 + 1 = os + (a + q) * 4 + 1 by omega]; exact (hkwq.cell bs _ hls (by simp)).trans h2
      have r3 : wq.cell? ⟨bs, os + a * 4 + q * 4 + 2, none⟩ = some (.int .i64 sk) := by rw [show os + a * 4 + q * 4 + 2 = os + (a + q) * 4 + 2 by omega]; exact (hkwq.cell bs _ hls (by simp)).trans h3
      have r4 : wq.cell? ⟨bs, os + a * 4 + q * 4 + 3, none⟩ = some (.int .i64 sv) := by rw [show os + a * 4 + q * 4 + 3 = os + (a + q) * 4 + 3 by omega]; exact (hkwq.cell bs _ hls (by simp)).trans h4
      have hlq : bs < wq.heap.size := Nat.lt_of_lt_of_le hls hkwq.size
      have hq1 : (q : Int) < (m : Int) := by omega
      clear hA4 hcs h1 h2 h3 h4 hsf en hON
      go_upto_region 6 with fail
      refine wp_named (fun V => ∃ gb, wq.heap.size = gb ∧ Blk V gb [.int .i64 sn, .int .i64 x, .int .i64 sk, .int .i64 sv] ∧ Kept [] wq V) ⟨_, rfl, Blk.new _ _ _ _ rfl, (Kept.refl _ _).alloc _⟩ ?_
      rintro V ⟨gb, eg, Bg, hkV⟩
      rw [eg]
      have ⟨LG, CG, FG⟩ := Bg
      have VV := Lib.hid (vq.out.kept hkV (by simp))
      have BV := Lib.hid (hkV.blk (by simp) bq.out)
      clear eg CQ FQ r1 r2 r3 r4
      go_wp2_with (go_at_call 56; refine (fold_any g hb F F x sk sv _ _ VV.out BV.out hx).mono ?_; rintro e w5 ⟨rfl, hv5, hk5⟩; have V5 := Lib.hid hv5; clear hv5)
      exact ⟨⟨q + 1, by omega, by go_num, kept_fresh (keptTrans hkq hkV) hk5 (by simpa using hgW), Lib.hid (by rw [← Nat.add_assoc, ← HON.out]; exact V5.out), Lib.hid (hk5.blk (by simpa using hne) BV.out)⟩, by simp [intOf]; omega⟩
    · obtain rfl : q = m := by omega
      have VE : Hid (Vals wq g F (metS Xf.meetV sd mn bot0 sd.length)) := by
        show Vals _ _ _ _
        rw [met_skip (a := a + q) sd.length (by rw [HSL.out]; omega) (fun x h1 h2 => HA3.out x h1 (by rw [HSL.out] at h2; exact h2))]
        exact vq.out
      clear vq HA1 HA2 HA3 HA4 hltq hq
      have VE0 : Hid (Vals wq g F (runJ Xf.meetV Xf.apply es ls sd mn path 0)) := VE
      go_wp2_with fail
      go_loopw [5, 6, 44] (fun s5 s6 s44 wr => ∃ j g hb : Nat, j ≤ n5 ∧ s5 = .slice (some ⟨g, 0, none⟩) F F ∧ s6 = .func (.func 56) #[] #[.pointer (some ⟨hb, 0, none⟩)] ∧ s44 = .int .i64 j ∧ Kept [] W wr ∧ Hid (Vals wr g F (runJ Xf.meetV Xf.apply es ls sd mn path j)) ∧ Hid (Blk wr hb [.slice (some ⟨g, 0, none⟩) F F]) ∧ W.heap.size ≤ g ∧ W.heap.size ≤ hb ∧ hb ≠ g) (fun _ _ i _ => n5 - (intOf i).toNat)
      case atStart => exact ⟨0, g, hb, Nat.zero_le _, rfl, rfl, rfl, hkq, VE0, bq, hgW, hhW, hne⟩
      case round =>
        rename World => wr
        clear VE VE0 CQ FQ bq hgW hhW hne hAM
        obtain ⟨j, g, hb, hj, rfl, rfl, rfl, hkr, vr, br, hgW, hhW, hne⟩ := hrel
        have hkwr : Kept [] w wr := keptTrans hkW hkr
        have ⟨LR, CR, FR⟩ := hkr.blk (by simp) B0
        by_cases hlt : j < n5
        case neg =>
          obtain rfl : j = n5 := by omega
          go_wp2_with fail
          go_ret
          exact ⟨g, F, rfl, by rw [HPN.out]; exact vr.out, Nat.le_trans hWs hgW, Nat.le_refl _, hkwr.toBelow⟩
        obtain ⟨b5, o5, rfl, hl5, hc5⟩ := HP.out.2 (by omega)
        have hpj := HPI.out j (by rw [HPN.out]; exact hlt)
        obtain ⟨k, hk⟩ := Int.eq_ofNat_of_zero_le hpj.1
        have r5 : wr.cell? ⟨b5, o5 + j, none⟩ = some (.int .i64 k) := by rw [← hk]; exact (hkwr.cell b5 _ hl5 (by simp)).trans (hc5 j hlt)
        have hl5r : b5 < wr.heap.size := Nat.lt_of_lt_of_le hl5 hkwr.size
        have hk2 : k < n2 := by have := HE.out.1; omega
        have hk3 : k < n3 := by have := HE.out.1; have := HF.out.1; have := HO.out.len; omega
        have HK := Lib.hid hk
        have HPK := Lib.hid (HO.out.pin k (by rw [HF.out.1]; exact hk3))
        have hj1 : (j : Int) < (n5 : Int) := by omega
        clear hk hpj hc5
        obtain ⟨b3, o3, Ai, ni, ci, rfl, hl3, hc3, hxp⟩ := HF.out.row hkwr.toBelow hk3
        have HX := Lib.hid hxp
        have HNI := Lib.hid hxp.1
        have hni : ni ≤ 8192 := by have := hxp.1; have := HPK.out.1; omega
        have hl3r : b3 < wr.heap.size := Nat.lt_of_lt_of_le hl3 hkwr.size
        have hk3' : (k : Int) < (n3 : Int) := by omega
        have hk2' : (k : Int) < (n2 : Int) := by omega
        clear hxp
        go_upto_region 13 with (go_at_call 34; refine (folder_any F _ hF2).mono ?_; rintro e w1 ⟨g2, hb2, rfl, hv1, hbb1, hg2, hh2, hne2, hb1⟩)
        have hk1 : Kept [] wr w1 := (Kept.refl _ _).call hb1
        have hWr := hkr.size
        have hg2W : W.heap.size ≤ g2 := by omega
        have hh2W : W.heap.size ≤ hb2 := by omega
        have hgg : g2 ≠ g := by have := vr.out.lt; omega
        have V1 := Lib.hid hv1
        have BB1 := Lib.hid hbb1
        have VB := Lib.hid (vr.out.kept hk1 (by simp))
        have r3' : w1.cell? ⟨b3, o3 + k, none⟩ = some (.slice Ai ni ci) := (hk1.cell b3 _ hl3r (by simp)).trans hc3
        have hl31 : b3 < w1.heap.size := Nat.lt_of_lt_of_le hl3r hk1.size
        have hkW1 : Kept [] W w1 := keptTrans hkr hk1
        have ⟨L1, C1, F1⟩ := hkW1.blk (by simp) B0
        clear hv1 hbb1 CR FR hc3 vr br r5
        have HRUN : Hid (runJ Xf.meetV Xf.apply es ls sd mn path (j + 1) = metS Xf.meetV sd (ge es k).b (prS Xf.meetV Xf.apply (Sp.gl ls k) (runJ Xf.meetV Xf.apply es ls sd mn path j) ni) sd.length) := by
          show _ = _
          rw [runJ, HK.out, afterS, ← HNI.out]
          rfl
        go_wp2_with fail
        clear C1 F1 r3'
        go_loopw [61] (fun i wp => ∃ qp : Nat, qp ≤ ni ∧ i = .int .i64 qp ∧ Kept [] W wp ∧ Hid (Vals wp g2 F (prS Xf.meetV Xf.apply (Sp.gl ls k) (runJ Xf.meetV Xf.apply es ls sd mn path j) qp)) ∧ Hid (Blk wp hb2 [.slice (some ⟨g2, 0, none⟩) F F]) ∧ Hid (Vals wp g F (runJ Xf.meetV Xf.apply es ls sd mn path j))) (fun i _ => ni - (intOf i).toNat)
        case atStart => exact ⟨0, Nat.zero_le _, rfl, hkW1, V1, BB1, VB⟩
        case round =>
          rename World => wp
          obtain ⟨qp, hq, rfl, hkp, vp, bp, vb⟩ := hrel
          have BP0 := hkp.blk (by simp) B0
          have hkwp : Kept [] w wp := keptTrans hkW hkp
          clear V1 BB1 VB
          by_cases hltq : qp < ni
          · obtain ⟨xi, xo, xk, xb, xc, en⟩ : ∃ xi xo xk xb xc, Sp.gx (Sp.gl ls k) qp = ⟨xi, xo, xk, xb, xc⟩ := ⟨_, _, _, _, _, rfl⟩
            obtain ⟨b, o, rfl, hl, h1, h2, h3, h4, h5⟩ := HX.out.cells hkwp.toBelow hltq en
            have hxr := HPK.out.2 qp (by rw [HNI.out]; exact hltq)
            rw [en] at hxr
            dsimp only at hxr
            obtain ⟨x, rfl⟩ := Int.eq_ofNat_of_zero_le hxr.1
            obtain ⟨y, rfl⟩ := Int.eq_ofNat_of_zero_le hxr.2.2.1
            have hx : x < F := by omega
            have hy : y < F := by omega
            have hx1 : (x : Int) < (F : Int) := by omega
            have hq1 : (qp : Int) < (ni : Int) := by omega
            have hlp : b < wp.heap.size := Nat.lt_of_lt_of_le hl hkwp.size
            have hON := pr_one (me := Xf.meetV) (ap := Xf.apply) (ps := Sp.gl ls k) (l := runJ Xf.meetV Xf.apply es ls sd mn path j) (j := qp)
            rw [en] at hON
            dsimp only at hON
            simp only [Int.toNat_natCast] at hON
            have HON := Lib.hid hON
            clear hxr en hON
            go_upto_region 16 with fail
            refine wp_named (fun V => ∃ gb, wp.heap.size = gb ∧ Blk V gb [.int .i64 x, .int .i64 y, .int .i64 xk, .int .i64 xb, .int .i64 xc] ∧ Kept [] wp V) ⟨_, rfl, Blk.new _ _ _ _ rfl, (Kept.refl _ _).alloc _⟩ ?_
            rintro V ⟨gb, eg, Bg, hkV⟩
            rw [eg]
            have ⟨LG, CG, FG⟩ := Bg
            have VV := Lib.hid (vp.out.kept hkV (by simp))
            have BV := Lib.hid (hkV.blk (by simp) bp.out)
            have LV := Lib.hid (vb.out.kept hkV (by simp))
            clear h1 h2 h3 h4 h5 eg
            obtain ⟨z, hz⟩ : ∃ z, runJ Xf.meetV Xf.apply es ls sd mn path j x = z := ⟨_, rfl⟩
            have l0 := LV.out.c0 x hx
            have l1 := LV.out.c1 x hx
            rw [hz] at l0 l1
            obtain ⟨zk, zn⟩ := z
            have hlr2 := LV.out.lt
            have HZ := Lib.hid hz
            clear hz
            obtain ⟨ak, an, ha⟩ : ∃ ak an, Xf.apply ⟨xk, xb, xc⟩ ⟨zk, zn⟩ = ⟨ak, an⟩ := ⟨_, _, rfl⟩
            have HA := Lib.hid ha
            clear ha
            refine wp_region_E 11 (fun w' => SX0 V w') (by kernel_rfl) (by (repeat' first | (with_reducible assumption) | (with_reducible exact SX0.init _) | (with_reducible exact SX0.refl _) | (with_reducible refine SX0.alloc ?_ _) | (with_reducible refine SX0.call ?_ (by assumption)) | (with_reducible refine SX0.set ?_ _ _ _ ?_) | (with_reducible refine SX0.drew ?_) | (simp; done) | omega | (simp; omega))) (fun hHeld => ?_)
            refine WE_take 0 (v := ?_) rfl (by kernel_rfl) (fun _ _ _ h => h) (Or.inl ⟨by rfl, ?_⟩) (by assumption) ?_; rotate_left; (· intro w9 hSw; (try dsimp only at hSw); go_simp; try with_reducible rfl); (try simp only [Act.put, List.setIfInBounds_toArray, List.set_cons_zero, List.set_cons_succ])
            refine WE_take 1 (v := ?_) rfl (by kernel_rfl) (fun _ _ _ h => h) (Or.inl ⟨by rfl, ?_⟩) (by assumption) ?_; rotate_left; (· intro w9 hSw; (try dsimp only at hSw); go_simp; try with_reducible rfl); (try simp only [Act.put, List.setIfInBounds_toArray, List.set_cons_zero, List.set_cons_succ])
            refine WE_take 2 (v := ?_) rfl (by kernel_rfl) (fun _ _ _ h => h) (Or.inl ⟨by rfl, ?_⟩) (by assumption) ?_; rotate_left; (· intro w9 hSw; (try dsimp only at hSw); go_simp; try with_reducible rfl); (try simp only [Act.put, List.setIfInBounds_toArray, List.set_cons_zero, List.set_cons_succ])
            refine WE_take 3 (v := ?_) rfl (by kernel_rfl) (fun _ _ _ h => h) (Or.inl ⟨by rfl, ?_⟩) (by assumption) ?_; rotate_left; (· intro w9 hSw; (try dsimp only at hSw); go_simp; try with_reducible rfl); (try simp only [Act.put, List.setIfInBounds_toArray, List.set_cons_zero, List.set_cons_succ])
            refine WE_take 4 (v := ?_) rfl (by kernel_rfl) (fun _ _ _ h => h) (Or.inl ⟨by rfl, ?_⟩) (by assumption) ?_; rotate_left; (· intro w9 hSw; (try dsimp only at hSw); go_simp; try with_reducible rfl); (try simp only [Act.put, List.setIfInBounds_toArray, List.set_cons_zero, List.set_cons_succ])
            refine WE_take 5 (v := ?_) rfl (by kernel_rfl) (fun _ _ _ h => h) (Or.inl ⟨by rfl, ?_⟩) (by assumption) ?_; rotate_left; (· intro w9 hSw; (try dsimp only at hSw); go_simp; try with_reducible rfl); (try simp only [Act.put, List.setIfInBounds_toArray, List.set_cons_zero, List.set_cons_succ])
            refine WE_take 6 (v := ?_) rfl (by kernel_rfl) (fun _ _ _ h => h) (Or.inl ⟨by rfl, ?_⟩) (by assumption) ?_; rotate_left; (· intro w9 hSw; (try dsimp only at hSw); go_simp; try with_reducible rfl); (try simp only [Act.put, List.setIfInBounds_toArray, List.set_cons_zero, List.set_cons_succ])
            refine WE_take 7 (v := ?_) rfl (by kernel_rfl) (fun _ _ _ h => h) (Or.inl ⟨by rfl, ?_⟩) (by assumption) ?_; rotate_left; (· intro w9 hSw; (try dsimp only at hSw); go_simp; try with_reducible rfl); (try simp only [Act.put, List.setIfInBounds_toArray, List.set_cons_zero, List.set_cons_succ])
            refine WE_take 8 (v := ?_) rfl (by kernel_rfl) (fun _ _ _ h => h) (Or.inl ⟨by rfl, ?_⟩) (by assumption) ?_; rotate_left; (· intro w9 hSw; (try dsimp only at hSw); go_simp; try with_reducible rfl); (try simp only [Act.put, List.setIfInBounds_toArray, List.set_cons_zero, List.set_cons_succ])
            refine WE_take 9 (v := ?_) rfl (by kernel_rfl) (fun _ _ _ h => h) (Or.inl ⟨by rfl, ?_⟩) (by assumption) ?_; rotate_left; (· intro w9 hSw; (try dsimp only at hSw); go_simp; try with_reducible rfl); (try simp only [Act.put, List.setIfInBounds_toArray, List.set_cons_zero, List.set_cons_succ])
            refine WE_step 10 rfl (by kernel_rfl) (fun K hK => ?_)
            go_simp
            (first | (go_at_call 47; refine (apply_any xk xb xc zk zn _).mono ?_; rw [HA.out]; rintro e w5 ⟨rfl, hb5⟩) | (go_at_call 56; refine (fold_any g2 hb2 F F y ak an _ _ (VV.out.kept hHeld.1 (by simp)) (hHeld.1.blk (by simp) BV.out) hy).mono ?_; rintro e w6 ⟨rfl, hv6, hk6⟩; have V6 := Lib.hid hv6; clear hv6))
            (try go_wp2_with fail)
            refine hK.out _ _ ?_ (fun hHeld => ?_)
            · (repeat' first | (with_reducible assumption) | (with_reducible exact SX0.init _) | (with_reducible exact SX0.refl _) | (with_reducible refine SX0.alloc ?_ _) | (with_reducible refine SX0.call ?_ (by assumption)) | (with_reducible refine SX0.set ?_ _ _ _ ?_) | (with_reducible refine SX0.drew ?_) | (simp; done) | omega | (simp; omega))
            clear hK K
            try simp only [Act.put, List.setIfInBounds_toArray, List.set_cons_zero, List.set_cons_succ]
            refine WE_last rfl (by kernel_rfl) (fun K hK => ?_)
            go_simp
            (first | (go_at_call 47; refine (apply_any xk xb xc zk zn _).mono ?_; rw [HA.out]; rintro e w5 ⟨rfl, hb5⟩) | (go_at_call 56; refine (fold_any g2 hb2 F F y ak an _ _ (VV.out.kept hHeld.1 (by simp)) (hHeld.1.blk (by simp) BV.out) hy).mono ?_; rintro e w6 ⟨rfl, hv6, hk6⟩; have V6 := Lib.hid hv6; clear hv6))
            (try go_wp2_with fail)
            refine hK.out _ _ ?_
            clear hK K
            have hkV5 : Kept [] V w5 := hHeld.1
            have hk5' : Kept [] wp w5 := keptTrans hkV hkV5
            go_wp2_with fail
            exact ⟨⟨qp + 1, by omega, by go_num, kept_fresh (keptTrans hkp hk5') hk6 (by simpa using hg2W), Lib.hid (by rw [← HON.out, HZ.out, HA.out]; exact V6.out), Lib.hid (hk6.blk (by simpa using hne2) (hkV5.blk (by simp) BV.out)), Lib.hid ((LV.out.kept hkV5 (by simp)).kept hk6 (by simpa using hgg.symm))⟩, by simp [intOf]; omega⟩
          · obtain rfl : qp = ni := by omega
            have ⟨LP, CP, FP⟩ := BP0
            obtain ⟨b2, o2, rfl, hl2, hc2e⟩ := HE.out.cell2 hkwp.toBelow hk2
            obtain ⟨nd, hnd⟩ : ∃ nd, (ge es k).b = nd := ⟨_, rfl⟩
            rw [hnd] at hc2e HRUN
            have hl2p : b2 < wp.heap.size := Nat.lt_of_lt_of_le hl2 hkwp.size
            clear hnd
            go_upto_region 18 with fail
            go_region_held3 (fun w' => SX0 wp w') (repeat' first | (with_reducible assumption) | (with_reducible exact SX0.init _) | (with_reducible exact SX0.refl _) | (with_reducible refine SX0.alloc ?_ _) | (with_reducible refine SX0.call ?_ (by assumption)) | (with_reducible refine SX0.set ?_ _ _ _ ?_) | (with_reducible refine SX0.drew ?_) | (simp; done) | omega | (simp; omega))
              (first | (go_at_call 46; refine (seedsAt_any A1 _ _ A4 n1 c1 n2 c2 n3 c3 n4 c4 mn F nd sd _ (HS.out.later ((hkwp.drew).toBelow)) hn4 hc4 HSR.out).mono ?_; rintro e w7 ⟨a, m, A', c', rfl, hAM, ha1, ha2, ha3, ha4, hb7⟩; have HA1 := Lib.hid ha1; have HA2 := Lib.hid ha2; have HA3 := Lib.hid ha3; have HA4 := Lib.hid ha4; clear ha1 ha2 ha3 ha4))
            have hkp7 : Kept [] wp w7 := ((Kept.refl [] wp).drew).call hb7
            have hkS : Kept [] W w7 := keptTrans hkp hkp7
            have VS := Lib.hid (vp.out.kept hkp7 (by simp))
            have BS := Lib.hid (hkp7.blk (by simp) bp.out)
            go_wp2_with fail
            clear CP FP hc2e vp bp vb
            have HST : Hid (metS Xf.meetV sd nd (prS Xf.meetV Xf.apply (Sp.gl ls k) (runJ Xf.meetV Xf.apply es ls sd mn path j) qp) (a + 0) = (prS Xf.meetV Xf.apply (Sp.gl ls k) (runJ Xf.meetV Xf.apply es ls sd mn path j) qp)) := by
              show _ = _
              rw [met_skip (a := 0) (a + 0) (Nat.zero_le _) (fun x _ h2 => HA1.out x (by omega))]
              rfl
            go_loopw [88] (fun i wq => ∃ q : Nat, q ≤ m ∧ i = .int .i64 q ∧ Kept [] W wq ∧ Hid (Vals wq g2 F (metS Xf.meetV sd nd (prS Xf.meetV Xf.apply (Sp.gl ls k) (runJ Xf.meetV Xf.apply es ls sd mn path j) qp) (a + q))) ∧ Hid (Blk wq hb2 [.slice (some ⟨g2, 0, none⟩) F F])) (fun i _ => m - (intOf i).toNat)
            case atStart => exact ⟨0, Nat.zero_le _, rfl, hkS, Lib.hid (by rw [HST.out]; exact VS.out), BS⟩
            case round =>
              rename World => wq
              obtain ⟨q, hq, rfl, hkq, vq, bq⟩ := hrel
              have ⟨LQ, CQ, FQ⟩ := hkq.blk (by simp) B0
              have hkwq : Kept [] w wq := keptTrans hkW hkq
              clear HST VS BS hkS
              by_cases hltq : q < m
              · obtain ⟨bs, os, hA4, rfl⟩ := HA4.out (by omega)
                obtain ⟨bs', os', e', hls, hcs⟩ := HS.out.2 (by omega)
                rw [hA4] at e'
                injection e' with e'
                injection e' with e1 e2
                subst e1 e2
                obtain ⟨h1, h2, h3, h4⟩ := hcs (a + q) (by omega)
                have hsf := HSD.out (a + q) (by omega)
                have hON := met_one (me := Xf.meetV) (f := (prS Xf.meetV Xf.apply (Sp.gl ls k) (runJ Xf.meetV Xf.apply es ls sd mn path j) qp)) (HA2.out (a + q) (by omega) (by omega))
                obtain ⟨sn, sf, sk, sv, en⟩ : ∃ sn sf sk sv, Sp.gs sd (a + q) = ⟨sn, sf, sk, sv⟩ := ⟨_, _, _, _, rfl⟩
                rw [en] at h1 h2 h3 h4 hsf hON
                dsimp only at h1 h2 h3 h4 hsf hON
                obtain ⟨x, rfl⟩ := Int.eq_ofNat_of_zero_le hsf.1
                have hx : x < F := by omega
                simp only [Int.toNat_natCast] at hON
                have HON := Lib.hid hON
                have r1 : wq.cell? ⟨bs, os + a * 4 + q * 4, none⟩ = some (.int .i64 sn) := by rw [show os + a * 4 + q * 4 = os + (a + q) * 4 by omega]; exact (hkwq.cell bs _ hls (by simp)).trans h1
                have r2 : wq.cell? ⟨bs, os + a * 4 + q * 4 + 1, none⟩ = some (.int .i64 x) := by rw [show os + a * 4 + q * 4 + 1 = os + (a + q) * 4 + 1 by omega]; exact (hkwq.cell bs _ hls (by simp)).trans h2
                have r3 : wq.cell? ⟨bs, os + a * 4 + q * 4 + 2, none⟩ = some (.int .i64 sk) := by rw [show os + a * 4 + q * 4 + 2 = os + (a + q) * 4 + 2 by omega]; exact (hkwq.cell bs _ hls (by simp)).trans h3
                have r4 : wq.cell? ⟨bs, os + a * 4 + q * 4 + 3, none⟩ = some (.int .i64 sv) := by rw [show os + a * 4 + q * 4 + 3 = os + (a + q) * 4 + 3 by omega]; exact (hkwq.cell bs _ hls (by simp)).trans h4
                have hlq : bs < wq.heap.size := Nat.lt_of_lt_of_le hls hkwq.size
                have hq1 : (q : Int) < (m : Int) := by omega
                clear hA4 hcs h1 h2 h3 h4 hsf en hON
                go_upto_region 21 with fail
                refine wp_named (fun V => ∃ gb, wq.heap.size = gb ∧ Blk V gb [.int .i64 sn, .int .i64 x, .int .i64 sk, .int .i64 sv] ∧ Kept [] wq V) ⟨_, rfl, Blk.new _ _ _ _ rfl, (Kept.refl _ _).alloc _⟩ ?_
                rintro V ⟨gb, eg, Bg, hkV⟩
                rw [eg]
                have ⟨LG, CG, FG⟩ := Bg
                have VV := Lib.hid (vq.out.kept hkV (by simp))
                have BV := Lib.hid (hkV.blk (by simp) bq.out)
                clear eg CQ FQ r1 r2 r3 r4
                go_wp2_with (go_at_call 56; refine (fold_any g2 hb2 F F x sk sv _ _ VV.out BV.out hx).mono ?_; rintro e w5 ⟨rfl, hv5, hk5⟩; have V5 := Lib.hid hv5; clear hv5)
                exact ⟨⟨q + 1, by omega, by go_num, kept_fresh (keptTrans hkq hkV) hk5 (by simpa using hg2W), Lib.hid (by rw [← Nat.add_assoc, ← HON.out]; exact V5.out), Lib.hid (hk5.blk (by simpa using hne2) BV.out)⟩, by simp [intOf]; omega⟩
              · obtain rfl : q = m := by omega
                have VE : Hid (Vals wq g2 F (metS Xf.meetV sd nd (prS Xf.meetV Xf.apply (Sp.gl ls k) (runJ Xf.meetV Xf.apply es ls sd mn path j) qp) sd.length)) := by
                  show Vals _ _ _ _
                  rw [met_skip (a := a + q) sd.length (by rw [HSL.out]; omega) (fun x h1 h2 => HA3.out x h1 (by rw [HSL.out] at h2; exact h2))]
                  exact vq.out
                clear vq HA1 HA2 HA3 HA4 hltq hq
                have VE2 : Hid (Vals wq g2 F (runJ Xf.meetV Xf.apply es ls sd mn path (j + 1))) := by
                  show Vals _ _ _ _
                  rw [HRUN.out]
                  exact VE.out
                go_wp2_with fail
                exact ⟨⟨j + 1, g2, hb2, by omega, rfl, rfl, by go_num, hkq, VE2, bq, hg2W, hh2W, hne2⟩, by simp [intOf]; omega⟩
end Go.Proofs.YtmjebjjhfoncfaaDoor
