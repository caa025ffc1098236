/- The contract of the program's Check of trails. (Printed by genXm.py.) -/
import Derived.Test.YtffkikhknabddaaGreatXi
namespace Go.Proofs.YtffkikhknabddaaGreat
open Go.RowKit Go.Df Go.Df.If
attribute [local go_sem ↓] Go.wp_at_zero Go.wp_at_succ

set_option maxRecDepth 100000 in
set_option maxHeartbeats 8000000 in
theorem ptrail_any (A1 A2 A3 A4 A5 A6 : Option Addr) (n1 c1 n2 c2 n3 c3 n4 c4 n5 c5 n6 c6 : Nat) (mn F : Int) (ns : List Sp.Nd) (es : List Sp.Ed) (ls : List (List Pr)) (sd : List Sd) (path fs : List Int) (w : World) (hg : Gr w A1 n1 A2 n2 ns es) (hf : Flw w A3 n3 ls) (hs : Sds w A4 n4 sd) (hp : Ints w A5 n5 path) (hq : Ints w A6 n6 fs) (hn4 : n4 ≤ 1000) (hc4 : n4 ≤ c4) (hn5 : n5 ≤ 1000000) (hn6 : n6 ≤ 9223372036854775807)
    (er : Int) (her : trErr ⟨ns, es, mn, F, ls, sd⟩ path fs = er) :
    Calls Tryz.prog 8 #[.agg #[.slice A1 n1 c1, .slice A2 n2 c2, .int .i64 mn, .int .i64 F, .slice A3 n3 c3, .slice A4 n4 c4], .agg #[.slice A5 n5 c5, .slice A6 n6 c6]] w fun e w' => e = .returned (.int .i64 er) ∧ Below w.heap.size w w' := by
  have HG := Lib.hid hg
  have HF := Lib.hid hf
  have HS := Lib.hid hs
  have HP := Lib.hid hp
  have HQ := Lib.hid hq
  have HPL := Lib.hid hp.1
  have HQL := Lib.hid hq.1
  have HER := Lib.hid her
  clear hg hf hs hp hq her
  go_enter Tryz.func8, Tryz.ntmps8
  go_upto_region 1 with fail
  refine wp_named (fun W => ∃ b0 b1, w.heap.size = b0 ∧ w.heap.size + 1 = b1 ∧ Blk W b0 [.slice A1 n1 c1, .slice A2 n2 c2, .int .i64 mn, .int .i64 F, .slice A3 n3 c3, .slice A4 n4 c4] ∧ Blk W b1 [.slice A5 n5 c5, .slice A6 n6 c6] ∧ Below w.heap.size w W) ⟨_, _, rfl, rfl, ?_, ?_, ?_⟩ ?_
  · exact (Blk.new _ _ _ _ (by first | rfl | simp)).alloc _
  · exact Blk.new _ _ _ _ (by first | rfl | simp)
  · go_grown
  rintro W ⟨b0, b1, e0, e1, B0, B1, hB⟩
  rw [e1, e0]
  have G0 : w.heap.size ≤ b0 := by omega
  have n01 : b0 ≠ b1 := by omega
  have G1 : w.heap.size ≤ b1 := by omega
  have n10 : b1 ≠ b0 := by omega
  clear e0 e1
  have ⟨L0, C0, F0⟩ := B0
  have ⟨L1, C1, F1⟩ := B1
  have hkW : Kept [] w W := (Kept.refl _ _).call hB
  obtain ⟨ie, hie⟩ : ∃ ie, pbErr ⟨ns, es, mn, F, ls, sd⟩ = ie := ⟨_, rfl⟩
  have HIE := Lib.hid hie
  clear hie
  go_upto_region 2 with (go_at_call 12; refine (ifdsck_any A1 A2 A3 A4 n1 c1 n2 c2 n3 c3 n4 c4 mn F ns es ls sd _ (HG.out.nd.later hB) (HG.out.ed.later hB) (HF.out.later hB) (HS.out.later hB) (by omega) HG.out.wn HG.out.we).mono ?_; rw [HIE.out]; rintro e w1 ⟨rfl, hb1⟩)
  have hk1 : Kept [] W w1 := (Kept.refl _ _).call hb1
  have hkw1 : Kept [] w w1 := keptTrans hkW hk1
  have ⟨L1, C1, F1⟩ := hk1.blk (by simp) B0
  have ⟨L1', C1', F1'⟩ := hk1.blk (by simp) B1
  clear C0 F0
  by_cases h0 : ie = 0
  case neg =>
    have h0' : (ie != 0) = true := by simpa using h0
    have hE : Hid (er = ie) := by show _ = _; rw [← HER.out]; unfold trErr; rw [HIE.out, if_pos h0]
    clear h0
    go_wp2_with fail
    go_ret
    exact ⟨by rw [hE.out]; rfl, hkw1.toBelow⟩
  subst h0
  by_cases hlen : n6 = n5 + 1
  case neg =>
    have z0 : (((n6 : Nat) : Int) != (n5 : Int) + 1) = true := by simp; omega
    have hE : Hid (er = 20) := by show _ = _; rw [← HER.out]; unfold trErr; rw [HIE.out, if_neg (by simp), if_pos (by rw [HPL.out, HQL.out]; exact hlen)]
    clear hlen
    go_wp2_with fail
    go_ret
    exact ⟨by rw [hE.out]; rfl, hkw1.toBelow⟩
  have z0 : (((n6 : Nat) : Int) != (n5 : Int) + 1) = false := by simp; omega
  have HLEN := Lib.hid hlen
  clear hlen
  obtain ⟨fe, fa, fc, hfe⟩ : ∃ a b c, Sp.followS ns es mn mn path = (a, b, c) := ⟨_, _, _, rfl⟩
  have HFE := Lib.hid hfe
  clear hfe
  go_upto_region 7 with (go_at_call 13; refine (pcheck_any A1 A2 A5 n1 c1 n2 c2 n5 c5 mn mn ns es path _ (HG.out.kept hkw1) (HP.out.later hkw1.toBelow) ).mono ?_; rw [HFE.out]; rintro e w2 ⟨rfl, hb2⟩)
  have hk2 : Kept [] W w2 := hk1.call hb2
  have hkw2 : Kept [] w w2 := keptTrans hkW hk2
  have ⟨L2, C2, F2⟩ := hk2.blk (by simp) B0
  have ⟨L2', C2', F2'⟩ := hk2.blk (by simp) B1
  clear C1 F1 C1' F1' z0
  by_cases h0 : fe = 0
  case neg =>
    have h0' : (fe != 0) = true := by simpa using h0
    have hE : Hid (er = fe) := by show _ = _; rw [← HER.out]; unfold trErr; rw [HIE.out, if_neg (by simp), if_neg (by rw [HPL.out, HQL.out, HLEN.out]; simp), if_pos (by rw [HFE.out]; exact h0), HFE.out]
    clear h0
    go_wp2_with fail
    go_ret
    exact ⟨by rw [hE.out]; rfl, hkw2.toBelow⟩
  subst h0
  have HO := Lib.hid (ok_of HIE.out)
  have HPI := Lib.hid (follow_in (path := path) (ns := ns) (es := es) (mn := mn) (fr := mn) (by rw [HFE.out])).2
  have HFA : Hid (factErr ⟨ns, es, mn, F, ls, sd⟩ path fs = er) := Lib.hid (by
    rw [← HER.out]; unfold trErr
    rw [HIE.out, if_neg (by simp), if_neg (by rw [HPL.out, HQL.out, HLEN.out]; simp), if_neg (by rw [HFE.out]; simp)])
  have HSR : Hid (∀ i j, i ≤ j → j < n4 → (gd sd i).n ≤ (gd sd j).n) := fun i j h1 h2 => sd_mono HO.out.sd h1 (by rw [HS.out.1]; exact h2)
  have HSN : Hid (∀ z, (seedF sd z).length ≤ 1000) := Lib.hid (fun z => Nat.le_trans (seedF_len sd z) (by rw [HS.out.1]; exact hn4))
  have hn60 : 0 < n6 := by have := HLEN.out; omega
  go_wp2_with fail
  go_loopw [41] (fun i wr => ∃ j : Nat, j ≤ n6 ∧ i = .int .i64 j ∧ Kept [] W wr ∧ Hid (∀ z, z < j → rngErr F fs z = 0)) (fun i _ => n6 - (intOf i).toNat)
  case atStart => exact ⟨0, Nat.zero_le _, rfl, hk2, Lib.hid (fun z h => absurd h (by omega))⟩
  case round =>
  clear C2 F2 C2' F2'
  obtain ⟨j, hj, rfl, hkr, hrg⟩ := hrel
  have BR0 := hkr.blk (by simp) B0
  have BR1 := hkr.blk (by simp) B1
  have ⟨LR, CR, FR⟩ := BR0
  have ⟨LR', CR', FR'⟩ := BR1
  have hkwr : Kept [] w wr := keptTrans hkW hkr
  obtain ⟨b6, o6, rfl, hl6, hc6⟩ := HQ.out.2 hn60
  have HC6 := Lib.hid hc6
  have hl6r : b6 < wr.heap.size := Nat.lt_of_lt_of_le hl6 hkwr.size
  clear hc6
  by_cases hlt : j < n6
  · have r6 := (hkwr.cell b6 _ hl6 (by simp)).trans (HC6.out j hlt)
    obtain ⟨d, hd⟩ : ∃ d, gi fs j = d := ⟨_, rfl⟩
    rw [hd] at r6
    have hj1 : (j : Int) < (n6 : Int) := by omega
    by_cases hbad : d < 0 ∨ F ≤ d
    · have hE : Hid (er = 4) := by
        show _ = _
        rw [← HFA.out]
        unfold factErr
        have h9 : Go.Df.Sp.fe (rngErr F fs) 0 fs.length = 4 := Go.Df.Sp.fe_hit hrg.out (by rw [HQL.out]; exact hlt) (by unfold rngErr; rw [hd, if_pos hbad]) (by omega)
        rw [if_pos (by rw [h9]; omega), h9]
      clear hd
      by_cases h1 : d < 0
      · have z1 : decide (d < 0) = true := decide_eq_true h1
        clear hbad h1
        go_wp2_with fail
        go_ret
        exact ⟨by rw [hE.out]; rfl, hkwr.toBelow⟩
      · have z1 : decide (d < 0) = false := decide_eq_false h1
        have z2 : decide (F ≤ d) = true := decide_eq_true (by omega)
        clear hbad h1
        go_wp2_with fail
        go_ret
        exact ⟨by rw [hE.out]; rfl, hkwr.toBelow⟩
    · have z1 : decide (d < 0) = false := decide_eq_false (by omega)
      have z2 : decide (F ≤ d) = false := decide_eq_false (by omega)
      have HR2 : Hid (∀ z, z < j + 1 → rngErr F fs z = 0) := Lib.hid (fun z hz => by
        rcases Nat.lt_or_ge z j with h9 | h9
        · exact hrg.out z h9
        · obtain rfl : z = j := by omega
          unfold rngErr
          rw [hd, if_neg hbad])
      clear hd hbad
      go_wp2_with fail
      exact ⟨⟨j + 1, by omega, by go_num, hkr, HR2⟩, by simp [intOf]; omega⟩
  obtain rfl : j = n6 := by omega
  have HRF : Hid (Go.Df.Sp.fe (rngErr F fs) 0 fs.length = 0) := Lib.hid (Go.Df.Sp.fe_ok fs.length 0 (fun i _ hi => hrg.out i (by rw [← HQL.out]; omega)))
  have r60 := (hkwr.cell b6 _ hl6 (by simp)).trans (HC6.out 0 hn60)
  obtain ⟨d0, hd0⟩ : ∃ d, gi fs 0 = d := ⟨_, rfl⟩
  rw [hd0, Nat.add_zero] at r60
  have HD0 := Lib.hid hd0
  clear hd0 hlt
  by_cases hz : d0 = 0
  · subst hz
    have HST : Hid (¬ (gi fs 0 ≠ 0 ∧ gi fs 0 ∉ seedF sd mn)) := Lib.hid (fun h => h.1 HD0.out)
    have hkz : Kept [] W wr := hkr
    go_wp2_with fail
    go_loopw [73] (fun i wy => ∃ q : Nat, q ≤ n5 ∧ i = .int .i64 q ∧ Kept [] W wy ∧ Hid (∀ z, z < q → lnkErr ⟨ns, es, mn, F, ls, sd⟩ path fs z = 0)) (fun i _ => n5 - (intOf i).toNat)
    case atStart => exact ⟨0, Nat.zero_le _, rfl, hkz, Lib.hid (fun z h => absurd h (by omega))⟩
    case round =>
      rename World => wy
      clear CR FR CR' FR' r60
      obtain ⟨q, hq, rfl, hky, hlk⟩ := hrel
      have ⟨LY, CY, FY⟩ := hky.blk (by simp) B0
      have ⟨LY', CY', FY'⟩ := hky.blk (by simp) B1
      have hkwy : Kept [] w wy := keptTrans hkW hky
      by_cases hlt : q < n5
      case neg =>
        obtain rfl : q = n5 := by omega
        have hE : Hid (er = 0) := by
          show _ = _
          rw [← HFA.out]
          unfold factErr
          rw [if_neg (by rw [HRF.out]; simp), if_neg HST.out]
          exact Go.Df.Sp.fe_ok path.length 0 (fun i _ hi => hlk.out i (by rw [← HPL.out]; omega))
        go_wp2_with fail
        go_ret
        exact ⟨by rw [hE.out]; rfl, hkwy.toBelow⟩
      obtain ⟨b5, o5, rfl, hl5, hc5⟩ := HP.out.2 (by omega)
      have hpj := HPI.out q (by rw [HPL.out]; exact hlt)
      obtain ⟨k, hk⟩ := Int.eq_ofNat_of_zero_le hpj.1
      have r5 : wy.cell? ⟨b5, o5 + q, none⟩ = some (.int .i64 k) := by rw [← hk]; exact (hkwy.cell b5 _ hl5 (by simp)).trans (hc5 q hlt)
      have hl5r : b5 < wy.heap.size := Nat.lt_of_lt_of_le hl5 hkwy.size
      have hl6y : b6 < wy.heap.size := Nat.lt_of_lt_of_le hl6 hkwy.size
      have hk2 : k < n2 := by have := HG.out.ed.1; omega
      have hk3 : k < n3 := by have := HG.out.ed.1; have := HF.out.1; have h9 : ls.length = es.length := HO.out.len; omega
      have HK := Lib.hid hk
      have hj1 : (q : Int) < (n5 : Int) := by omega
      have hj6 : (q : Int) < (j : Int) := by have := HLEN.out; omega
      have hj7 : (q : Int) + 1 < (j : Int) := by have := HLEN.out; omega
      have hj8 : q < j := by omega
      have hj9 : q + 1 < j := by omega
      have hk2' : (k : Int) < (n2 : Int) := by omega
      have hk3' : (k : Int) < (n3 : Int) := by omega
      clear hk hpj hc5
      have ra := (hkwy.cell b6 _ hl6 (by simp)).trans (HC6.out q hj8)
      have rb := (hkwy.cell b6 _ hl6 (by simp)).trans (HC6.out (q + 1) hj9)
      obtain ⟨x, hx⟩ : ∃ x, gi fs q = x := ⟨_, rfl⟩
      obtain ⟨y, hy⟩ : ∃ y, gi fs (q + 1) = y := ⟨_, rfl⟩
      rw [hx] at ra
      rw [hy] at rb
      have HXX := Lib.hid hx
      have HYY := Lib.hid hy
      clear hx hy
      have HLK : Hid (∀ v, linkB ⟨ns, es, mn, F, ls, sd⟩ k x y = v → lnkErr ⟨ns, es, mn, F, ls, sd⟩ path fs q = if v = false then 1 else 0) := Lib.hid (fun v hv => by
        unfold lnkErr
        rw [HK.out, HXX.out, HYY.out]
        rw [show ((k : Int)).toNat = k from rfl, hv])
      have HOKN : Hid (linkB ⟨ns, es, mn, F, ls, sd⟩ k x y = true → ∀ z, z < q + 1 → lnkErr ⟨ns, es, mn, F, ls, sd⟩ path fs z = 0) := Lib.hid (fun hv z hz => by
        rcases Nat.lt_or_ge z q with h9 | h9
        · exact hlk.out z h9
        · obtain rfl : z = q := by omega
          rw [HLK.out true hv]; rfl)
      have HBAD : Hid (linkB ⟨ns, es, mn, F, ls, sd⟩ k x y = false → er = 1) := Lib.hid (fun hv => by
        rw [← HFA.out]
        unfold factErr
        rw [if_neg (by rw [HRF.out]; simp), if_neg HST.out]
        exact Go.Df.Sp.fe_hit hlk.out (by rw [HPL.out]; exact hlt) (by rw [HLK.out false hv]; rfl) (by omega))
      obtain ⟨b3, o3, rfl, hl3, hc3⟩ := HF.out.2 (by omega)
      obtain ⟨Ai, ni, ci, hcell3, hnc3, hprs⟩ := hc3 k hk3
      have r3 := (hkwy.cell b3 _ hl3 (by simp)).trans hcell3
      have hl3y : b3 < wy.heap.size := Nat.lt_of_lt_of_le hl3 hkwy.size
      have HPR := Lib.hid hprs
      have hflk := HO.out.fl k (by have h9 : ls.length = n3 := HF.out.1; show k < ls.length; omega)
      have hni : ni ≤ 8192 := by have h9 := hprs.1; have h8 := hflk.1; dsimp only at h8; omega
      obtain ⟨b2, o2, rfl, hl2, hc2⟩ := HG.out.ed.2 (by omega)
      obtain ⟨nd, hnd⟩ : ∃ nd, (ge es k).b = nd := ⟨_, rfl⟩
      have r2 := (hkwy.cell b2 _ hl2 (by simp)).trans (hc2 k hk2).2.1
      rw [hnd] at r2
      have hl2y : b2 < wy.heap.size := Nat.lt_of_lt_of_le hl2 hkwy.size
      have HLB : Hid (linkB ⟨ns, es, mn, F, ls, sd⟩ k x y = (decide ((⟨x, y⟩ : Pr) ∈ gf ls k) || (decide (x = 0) && decide (y ∈ seedF sd nd)))) := Lib.hid (by unfold linkB; rw [← hnd])
      obtain ⟨v, hv⟩ : ∃ v, decide ((⟨x, y⟩ : Pr) ∈ gf ls k) = v := ⟨_, rfl⟩
      have HV := Lib.hid hv
      clear hprs hcell3 hc3 hc2 hnd hflk hv
      cases v with
      | true =>
        have HN := Lib.hid (HOKN.out (by rw [HLB.out, HV.out]; rfl))
        go_upto_region 21 with fail
        go_quiet (fail)
        go_wp2_with (go_at_call 21; refine (containsp_any Ai ni ci (gf ls k) x y _ (HPR.out.later (hkwy.drewN _).toBelow) (by omega)).mono ?_; rw [HV.out]; rintro e w4 ⟨rfl, hb4⟩)
        exact ⟨⟨q + 1, by omega, by go_num, keptTrans hky (((Kept.refl [] wy).drewN _).call hb4), HN⟩, by simp [intOf]; omega⟩
      | false =>
        go_upto_region 21 with fail
        go_quiet (fail)
        go_upto_region 23 with (go_at_call 21; refine (containsp_any Ai ni ci (gf ls k) x y _ (HPR.out.later (hkwy.drewN _).toBelow) (by omega)).mono ?_; rw [HV.out]; rintro e w4 ⟨rfl, hb4⟩)
        have hkx : Kept [] wy w4 := ((Kept.refl [] wy).drewN _).call hb4
        have hkX : Kept [] W w4 := keptTrans hky hkx
        have hkwX : Kept [] w w4 := keptTrans hkW hkX
        have ⟨LX, CX, FX⟩ := hkX.blk (by simp) B0
        have ⟨LX', CX', FX'⟩ := hkX.blk (by simp) B1
        have r2x := (hkx.cell b2 _ hl2y (by simp)).trans r2
        have hl2x : b2 < w4.heap.size := Nat.lt_of_lt_of_le hl2y hkx.size
        clear CY FY CY' FY' ra rb r5 r3 r2
        by_cases hx0 : x = 0
        · subst hx0
          obtain ⟨u, hu⟩ : ∃ u, decide (y ∈ seedF sd nd) = u := ⟨_, rfl⟩
          have HU := Lib.hid hu
          have HLU : Hid (linkB ⟨ns, es, mn, F, ls, sd⟩ k 0 y = u) := Lib.hid (by rw [HLB.out, HV.out, hu]; rfl)
          clear hu
          go_upto_region 23 with fail
          refine wp_region_E 15 (fun w' => SX0 w4 w') (by kernel_rfl) (by (repeat' first | (with_reducible assumption) | (with_reducible exact SX0.init _) | (with_reducible exact SX0.refl _) | (with_reducible refine SX0.alloc ?_ _) | (with_reducible refine SX0.call ?_ (by assumption)) | (with_reducible refine SX0.set ?_ _ _ _ ?_) | (with_reducible refine SX0.drew ?_) | (simp; done) | omega | (simp; omega))) (fun hHeld => ?_)
          refine WE_take 0 (v := ?_) rfl (by kernel_rfl) (fun _ _ _ h => h) (Or.inl ⟨by rfl, ?_⟩) (by assumption) ?_; rotate_left; (· intro w9 hSw; (try dsimp only at hSw); go_simp; try with_reducible rfl); (try simp only [Act.put, List.setIfInBounds_toArray, List.set_cons_zero, List.set_cons_succ])
          refine WE_take 1 (v := ?_) rfl (by kernel_rfl) (fun _ _ _ h => h) (Or.inl ⟨by rfl, ?_⟩) (by assumption) ?_; rotate_left; (· intro w9 hSw; (try dsimp only at hSw); go_simp; try with_reducible rfl); (try simp only [Act.put, List.setIfInBounds_toArray, List.set_cons_zero, List.set_cons_succ])
          refine WE_take 2 (v := ?_) rfl (by kernel_rfl) (fun _ _ _ h => h) (Or.inl ⟨by rfl, ?_⟩) (by assumption) ?_; rotate_left; (· intro w9 hSw; (try dsimp only at hSw); go_simp; try with_reducible rfl); (try simp only [Act.put, List.setIfInBounds_toArray, List.set_cons_zero, List.set_cons_succ])
          first | (refine WE_take 3 (v := undef) rfl (by kernel_rfl) (fun _ _ _ h => h) (Or.inr ⟨by rfl, rfl⟩) (by assumption) ?_; (try simp only [Act.put, List.setIfInBounds_toArray, List.set_cons_zero, List.set_cons_succ])) | (refine WE_take 3 (v := ?_) rfl (by kernel_rfl) (fun _ _ _ h => h) (Or.inl ⟨by rfl, ?_⟩) (by assumption) ?_; rotate_left; (· intro w9 hSw; (try dsimp only at hSw); go_simp; try with_reducible rfl); (try simp only [Act.put, List.setIfInBounds_toArray, List.set_cons_zero, List.set_cons_succ]))
          first | (refine WE_take 4 (v := undef) rfl (by kernel_rfl) (fun _ _ _ h => h) (Or.inr ⟨by rfl, rfl⟩) (by assumption) ?_; (try simp only [Act.put, List.setIfInBounds_toArray, List.set_cons_zero, List.set_cons_succ])) | (refine WE_take 4 (v := ?_) rfl (by kernel_rfl) (fun _ _ _ h => h) (Or.inl ⟨by rfl, ?_⟩) (by assumption) ?_; rotate_left; (· intro w9 hSw; (try dsimp only at hSw); go_simp; try with_reducible rfl); (try simp only [Act.put, List.setIfInBounds_toArray, List.set_cons_zero, List.set_cons_succ]))
          first | (refine WE_take 5 (v := undef) rfl (by kernel_rfl) (fun _ _ _ h => h) (Or.inr ⟨by rfl, rfl⟩) (by assumption) ?_; (try simp only [Act.put, List.setIfInBounds_toArray, List.set_cons_zero, List.set_cons_succ])) | (refine WE_take 5 (v := ?_) rfl (by kernel_rfl) (fun _ _ _ h => h) (Or.inl ⟨by rfl, ?_⟩) (by assumption) ?_; rotate_left; (· intro w9 hSw; (try dsimp only at hSw); go_simp; try with_reducible rfl); (try simp only [Act.put, List.setIfInBounds_toArray, List.set_cons_zero, List.set_cons_succ]))
          first | (refine WE_take 6 (v := undef) rfl (by kernel_rfl) (fun _ _ _ h => h) (Or.inr ⟨by rfl, rfl⟩) (by assumption) ?_; (try simp only [Act.put, List.setIfInBounds_toArray, List.set_cons_zero, List.set_cons_succ])) | (refine WE_take 6 (v := ?_) rfl (by kernel_rfl) (fun _ _ _ h => h) (Or.inl ⟨by rfl, ?_⟩) (by assumption) ?_; rotate_left; (· intro w9 hSw; (try dsimp only at hSw); go_simp; try with_reducible rfl); (try simp only [Act.put, List.setIfInBounds_toArray, List.set_cons_zero, List.set_cons_succ]))
          first | (refine WE_take 7 (v := undef) rfl (by kernel_rfl) (fun _ _ _ h => h) (Or.inr ⟨by rfl, rfl⟩) (by assumption) ?_; (try simp only [Act.put, List.setIfInBounds_toArray, List.set_cons_zero, List.set_cons_succ])) | (refine WE_take 7 (v := ?_) rfl (by kernel_rfl) (fun _ _ _ h => h) (Or.inl ⟨by rfl, ?_⟩) (by assumption) ?_; rotate_left; (· intro w9 hSw; (try dsimp only at hSw); go_simp; try with_reducible rfl); (try simp only [Act.put, List.setIfInBounds_toArray, List.set_cons_zero, List.set_cons_succ]))
          first | (refine WE_take 8 (v := undef) rfl (by kernel_rfl) (fun _ _ _ h => h) (Or.inr ⟨by rfl, rfl⟩) (by assumption) ?_; (try simp only [Act.put, List.setIfInBounds_toArray, List.set_cons_zero, List.set_cons_succ])) | (refine WE_take 8 (v := ?_) rfl (by kernel_rfl) (fun _ _ _ h => h) (Or.inl ⟨by rfl, ?_⟩) (by assumption) ?_; rotate_left; (· intro w9 hSw; (try dsimp only at hSw); go_simp; try with_reducible rfl); (try simp only [Act.put, List.setIfInBounds_toArray, List.set_cons_zero, List.set_cons_succ]))
          first | (refine WE_take 9 (v := undef) rfl (by kernel_rfl) (fun _ _ _ h => h) (Or.inr ⟨by rfl, rfl⟩) (by assumption) ?_; (try simp only [Act.put, List.setIfInBounds_toArray, List.set_cons_zero, List.set_cons_succ])) | (refine WE_take 9 (v := ?_) rfl (by kernel_rfl) (fun _ _ _ h => h) (Or.inl ⟨by rfl, ?_⟩) (by assumption) ?_; rotate_left; (· intro w9 hSw; (try dsimp only at hSw); go_simp; try with_reducible rfl); (try simp only [Act.put, List.setIfInBounds_toArray, List.set_cons_zero, List.set_cons_succ]))
          first | (refine WE_take 10 (v := undef) rfl (by kernel_rfl) (fun _ _ _ h => h) (Or.inr ⟨by rfl, rfl⟩) (by assumption) ?_; (try simp only [Act.put, List.setIfInBounds_toArray, List.set_cons_zero, List.set_cons_succ])) | (refine WE_take 10 (v := ?_) rfl (by kernel_rfl) (fun _ _ _ h => h) (Or.inl ⟨by rfl, ?_⟩) (by assumption) ?_; rotate_left; (· intro w9 hSw; (try dsimp only at hSw); go_simp; try with_reducible rfl); (try simp only [Act.put, List.setIfInBounds_toArray, List.set_cons_zero, List.set_cons_succ]))
          first | (refine WE_take 12 (v := undef) rfl (by kernel_rfl) (fun _ _ _ h => h) (Or.inr ⟨by rfl, rfl⟩) (by assumption) ?_; (try simp only [Act.put, List.setIfInBounds_toArray, List.set_cons_zero, List.set_cons_succ])) | (refine WE_take 12 (v := ?_) rfl (by kernel_rfl) (fun _ _ _ h => h) (Or.inl ⟨by rfl, ?_⟩) (by assumption) ?_; rotate_left; (· intro w9 hSw; (try dsimp only at hSw); go_simp; try with_reducible rfl); (try simp only [Act.put, List.setIfInBounds_toArray, List.set_cons_zero, List.set_cons_succ]))
          refine WE_step 11 rfl (by kernel_rfl) (fun K hK => ?_)
          go_simp
          (first | (go_at_call 20; refine (eseedsat_any A1 _ _ A4 n1 c1 n2 c2 n3 c3 n4 c4 mn F nd sd _ (HS.out.later (keptTrans hkwX hHeld.1).toBelow) (by omega) hc4 HSR.out).mono ?_; rintro e w7 ⟨A7, n7, c7, rfl, hi7, hc7, hb7⟩; have HI7 := Lib.hid hi7; clear hi7) | (go_at_call 19; refine (contains_any A7 n7 c7 (seedF sd nd) y _ HI7.out (by have := HI7.out.1; have := HSN.out nd; omega)).mono ?_; rw [HU.out]; rintro e w8 ⟨rfl, rfl⟩))
          (try go_wp2_with fail)
          refine hK.out _ _ ?_ (fun hHeld => ?_)
          · (repeat' first | (with_reducible assumption) | (with_reducible exact SX0.init _) | (with_reducible exact SX0.refl _) | (with_reducible refine SX0.alloc ?_ _) | (with_reducible refine SX0.call ?_ (by assumption)) | (with_reducible refine SX0.set ?_ _ _ _ ?_) | (with_reducible refine SX0.drew ?_) | (simp; done) | omega | (simp; omega))
          clear hK K
          try simp only [Act.put, List.setIfInBounds_toArray, List.set_cons_zero, List.set_cons_succ]
          refine WE_step 13 rfl (by kernel_rfl) (fun K hK => ?_)
          go_simp
          (first | (go_at_call 20; refine (eseedsat_any A1 _ _ A4 n1 c1 n2 c2 n3 c3 n4 c4 mn F nd sd _ (HS.out.later (keptTrans hkwX hHeld.1).toBelow) (by omega) hc4 HSR.out).mono ?_; rintro e w7 ⟨A7, n7, c7, rfl, hi7, hc7, hb7⟩; have HI7 := Lib.hid hi7; clear hi7) | (go_at_call 19; refine (contains_any A7 n7 c7 (seedF sd nd) y _ HI7.out (by have := HI7.out.1; have := HSN.out nd; omega)).mono ?_; rw [HU.out]; rintro e w8 ⟨rfl, rfl⟩))
          (try go_wp2_with fail)
          refine hK.out _ _ ?_ (fun hHeld => ?_)
          · (repeat' first | (with_reducible assumption) | (with_reducible exact SX0.init _) | (with_reducible exact SX0.refl _) | (with_reducible refine SX0.alloc ?_ _) | (with_reducible refine SX0.call ?_ (by assumption)) | (with_reducible refine SX0.set ?_ _ _ _ ?_) | (with_reducible refine SX0.drew ?_) | (simp; done) | omega | (simp; omega))
          clear hK K
          try simp only [Act.put, List.setIfInBounds_toArray, List.set_cons_zero, List.set_cons_succ]
          first | (refine WE_take 14 (v := undef) rfl (by kernel_rfl) (fun _ _ _ h => h) (Or.inr ⟨by rfl, rfl⟩) (by assumption) ?_; (try simp only [Act.put, List.setIfInBounds_toArray, List.set_cons_zero, List.set_cons_succ])) | (refine WE_take 14 (v := ?_) rfl (by kernel_rfl) (fun _ _ _ h => h) (Or.inl ⟨by rfl, ?_⟩) (by assumption) ?_; rotate_left; (· intro w9 hSw; (try dsimp only at hSw); go_simp; try with_reducible rfl); (try simp only [Act.put, List.setIfInBounds_toArray, List.set_cons_zero, List.set_cons_succ]))
          refine WE_last rfl (by kernel_rfl) (fun K hK => ?_)
          go_simp
          refine hK.out _ _ ?_
          clear hK K
          have hky9 : Kept [] W w7 := keptTrans hkX hHeld.1
          cases u with
          | true =>
            have HN := Lib.hid (HOKN.out HLU.out)
            go_wp2_with fail
            exact ⟨⟨q + 1, by omega, by go_num, hky9, HN⟩, by simp [intOf]; omega⟩
          | false =>
            have hE := Lib.hid (HBAD.out HLU.out)
            go_wp2_with fail
            go_ret
            exact ⟨by rw [hE.out]; rfl, (keptTrans hkW hky9).toBelow⟩
        · have z1 : (x != 0) = true := by simpa using hx0
          have hE := Lib.hid (HBAD.out (by rw [HLB.out, HV.out, decide_eq_false hx0]; rfl))
          clear hx0
          go_upto_region 23 with fail
          refine wp_region_E 15 (fun w' => SX0 w4 w') (by kernel_rfl) (by (repeat' first | (with_reducible assumption) | (with_reducible exact SX0.init _) | (with_reducible exact SX0.refl _) | (with_reducible refine SX0.alloc ?_ _) | (with_reducible refine SX0.call ?_ (by assumption)) | (with_reducible refine SX0.set ?_ _ _ _ ?_) | (with_reducible refine SX0.drew ?_) | (simp; done) | omega | (simp; omega))) (fun hHeld => ?_)
          refine WE_take 0 (v := ?_) rfl (by kernel_rfl) (fun _ _ _ h => h) (Or.inl ⟨by rfl, ?_⟩) (by assumption) ?_; rotate_left; (· intro w9 hSw; (try dsimp only at hSw); go_simp; try with_reducible rfl); (try simp only [Act.put, List.setIfInBounds_toArray, List.set_cons_zero, List.set_cons_succ])
          refine WE_take 1 (v := ?_) rfl (by kernel_rfl) (fun _ _ _ h => h) (Or.inl ⟨by rfl, ?_⟩) (by assumption) ?_; rotate_left; (· intro w9 hSw; (try dsimp only at hSw); go_simp; try with_reducible rfl); (try simp only [Act.put, List.setIfInBounds_toArray, List.set_cons_zero, List.set_cons_succ])
          refine WE_take 2 (v := ?_) rfl (by kernel_rfl) (fun _ _ _ h => h) (Or.inl ⟨by rfl, ?_⟩) (by assumption) ?_; rotate_left; (· intro w9 hSw; (try dsimp only at hSw); go_simp; try with_reducible rfl); (try simp only [Act.put, List.setIfInBounds_toArray, List.set_cons_zero, List.set_cons_succ])
          first | (refine WE_take 3 (v := undef) rfl (by kernel_rfl) (fun _ _ _ h => h) (Or.inr ⟨by rfl, rfl⟩) (by assumption) ?_; (try simp only [Act.put, List.setIfInBounds_toArray, List.set_cons_zero, List.set_cons_succ])) | (refine WE_take 3 (v := ?_) rfl (by kernel_rfl) (fun _ _ _ h => h) (Or.inl ⟨by rfl, ?_⟩) (by assumption) ?_; rotate_left; (· intro w9 hSw; (try dsimp only at hSw); go_simp; try with_reducible rfl); (try simp only [Act.put, List.setIfInBounds_toArray, List.set_cons_zero, List.set_cons_succ]))
          first | (refine WE_take 4 (v := undef) rfl (by kernel_rfl) (fun _ _ _ h => h) (Or.inr ⟨by rfl, rfl⟩) (by assumption) ?_; (try simp only [Act.put, List.setIfInBounds_toArray, List.set_cons_zero, List.set_cons_succ])) | (refine WE_take 4 (v := ?_) rfl (by kernel_rfl) (fun _ _ _ h => h) (Or.inl ⟨by rfl, ?_⟩) (by assumption) ?_; rotate_left; (· intro w9 hSw; (try dsimp only at hSw); go_simp; try with_reducible rfl); (try simp only [Act.put, List.setIfInBounds_toArray, List.set_cons_zero, List.set_cons_succ]))
          first | (refine WE_take 5 (v := undef) rfl (by kernel_rfl) (fun _ _ _ h => h) (Or.inr ⟨by rfl, rfl⟩) (by assumption) ?_; (try simp only [Act.put, List.setIfInBounds_toArray, List.set_cons_zero, List.set_cons_succ])) | (refine WE_take 5 (v := ?_) rfl (by kernel_rfl) (fun _ _ _ h => h) (Or.inl ⟨by rfl, ?_⟩) (by assumption) ?_; rotate_left; (· intro w9 hSw; (try dsimp only at hSw); go_simp; try with_reducible rfl); (try simp only [Act.put, List.setIfInBounds_toArray, List.set_cons_zero, List.set_cons_succ]))
          first | (refine WE_take 6 (v := undef) rfl (by kernel_rfl) (fun _ _ _ h => h) (Or.inr ⟨by rfl, rfl⟩) (by assumption) ?_; (try simp only [Act.put, List.setIfInBounds_toArray, List.set_cons_zero, List.set_cons_succ])) | (refine WE_take 6 (v := ?_) rfl (by kernel_rfl) (fun _ _ _ h => h) (Or.inl ⟨by rfl, ?_⟩) (by assumption) ?_; rotate_left; (· intro w9 hSw; (try dsimp only at hSw); go_simp; try with_reducible rfl); (try simp only [Act.put, List.setIfInBounds_toArray, List.set_cons_zero, List.set_cons_succ]))
          first | (refine WE_take 7 (v := undef) rfl (by kernel_rfl) (fun _ _ _ h => h) (Or.inr ⟨by rfl, rfl⟩) (by assumption) ?_; (try simp only [Act.put, List.setIfInBounds_toArray, List.set_cons_zero, List.set_cons_succ])) | (refine WE_take 7 (v := ?_) rfl (by kernel_rfl) (fun _ _ _ h => h) (Or.inl ⟨by rfl, ?_⟩) (by assumption) ?_; rotate_left; (· intro w9 hSw; (try dsimp only at hSw); go_simp; try with_reducible rfl); (try simp only [Act.put, List.setIfInBounds_toArray, List.set_cons_zero, List.set_cons_succ]))
          first | (refine WE_take 8 (v := undef) rfl (by kernel_rfl) (fun _ _ _ h => h) (Or.inr ⟨by rfl, rfl⟩) (by assumption) ?_; (try simp only [Act.put, List.setIfInBounds_toArray, List.set_cons_zero, List.set_cons_succ])) | (refine WE_take 8 (v := ?_) rfl (by kernel_rfl) (fun _ _ _ h => h) (Or.inl ⟨by rfl, ?_⟩) (by assumption) ?_; rotate_left; (· intro w9 hSw; (try dsimp only at hSw); go_simp; try with_reducible rfl); (try simp only [Act.put, List.setIfInBounds_toArray, List.set_cons_zero, List.set_cons_succ]))
          first | (refine WE_take 9 (v := undef) rfl (by kernel_rfl) (fun _ _ _ h => h) (Or.inr ⟨by rfl, rfl⟩) (by assumption) ?_; (try simp only [Act.put, List.setIfInBounds_toArray, List.set_cons_zero, List.set_cons_succ])) | (refine WE_take 9 (v := ?_) rfl (by kernel_rfl) (fun _ _ _ h => h) (Or.inl ⟨by rfl, ?_⟩) (by assumption) ?_; rotate_left; (· intro w9 hSw; (try dsimp only at hSw); go_simp; try with_reducible rfl); (try simp only [Act.put, List.setIfInBounds_toArray, List.set_cons_zero, List.set_cons_succ]))
          first | (refine WE_take 10 (v := undef) rfl (by kernel_rfl) (fun _ _ _ h => h) (Or.inr ⟨by rfl, rfl⟩) (by assumption) ?_; (try simp only [Act.put, List.setIfInBounds_toArray, List.set_cons_zero, List.set_cons_succ])) | (refine WE_take 10 (v := ?_) rfl (by kernel_rfl) (fun _ _ _ h => h) (Or.inl ⟨by rfl, ?_⟩) (by assumption) ?_; rotate_left; (· intro w9 hSw; (try dsimp only at hSw); go_simp; try with_reducible rfl); (try simp only [Act.put, List.setIfInBounds_toArray, List.set_cons_zero, List.set_cons_succ]))
          first | (refine WE_take 12 (v := undef) rfl (by kernel_rfl) (fun _ _ _ h => h) (Or.inr ⟨by rfl, rfl⟩) (by assumption) ?_; (try simp only [Act.put, List.setIfInBounds_toArray, List.set_cons_zero, List.set_cons_succ])) | (refine WE_take 12 (v := ?_) rfl (by kernel_rfl) (fun _ _ _ h => h) (Or.inl ⟨by rfl, ?_⟩) (by assumption) ?_; rotate_left; (· intro w9 hSw; (try dsimp only at hSw); go_simp; try with_reducible rfl); (try simp only [Act.put, List.setIfInBounds_toArray, List.set_cons_zero, List.set_cons_succ]))
          refine WE_step 11 rfl (by kernel_rfl) (fun K hK => ?_)
          go_simp
          skip
          (try go_wp2_with fail)
          refine hK.out _ _ ?_ (fun hHeld => ?_)
          · (repeat' first | (with_reducible assumption) | (with_reducible exact SX0.init _) | (with_reducible exact SX0.refl _) | (with_reducible refine SX0.alloc ?_ _) | (with_reducible refine SX0.call ?_ (by assumption)) | (with_reducible refine SX0.set ?_ _ _ _ ?_) | (with_reducible refine SX0.drew ?_) | (simp; done) | omega | (simp; omega))
          clear hK K
          try simp only [Act.put, List.setIfInBounds_toArray, List.set_cons_zero, List.set_cons_succ]
          refine WE_step 13 rfl (by kernel_rfl) (fun K hK => ?_)
          go_simp
          skip
          (try go_wp2_with fail)
          refine hK.out _ _ ?_ (fun hHeld => ?_)
          · (repeat' first | (with_reducible assumption) | (with_reducible exact SX0.init _) | (with_reducible exact SX0.refl _) | (with_reducible refine SX0.alloc ?_ _) | (with_reducible refine SX0.call ?_ (by assumption)) | (with_reducible refine SX0.set ?_ _ _ _ ?_) | (with_reducible refine SX0.drew ?_) | (simp; done) | omega | (simp; omega))
          clear hK K
          try simp only [Act.put, List.setIfInBounds_toArray, List.set_cons_zero, List.set_cons_succ]
          first | (refine WE_take 14 (v := undef) rfl (by kernel_rfl) (fun _ _ _ h => h) (Or.inr ⟨by rfl, rfl⟩) (by assumption) ?_; (try simp only [Act.put, List.setIfInBounds_toArray, List.set_cons_zero, List.set_cons_succ])) | (refine WE_take 14 (v := ?_) rfl (by kernel_rfl) (fun _ _ _ h => h) (Or.inl ⟨by rfl, ?_⟩) (by assumption) ?_; rotate_left; (· intro w9 hSw; (try dsimp only at hSw); go_simp; try with_reducible rfl); (try simp only [Act.put, List.setIfInBounds_toArray, List.set_cons_zero, List.set_cons_succ]))
          refine WE_last rfl (by kernel_rfl) (fun K hK => ?_)
          go_simp
          refine hK.out _ _ ?_
          clear hK K
          go_wp2_with fail
          go_ret
          exact ⟨by rw [hE.out]; rfl, (keptTrans hkwX hHeld.1).toBelow⟩
  · have z0 : (d0 != 0) = true := by simpa using hz
    obtain ⟨v0, hv⟩ : ∃ v, decide (d0 ∈ seedF sd mn) = v := ⟨_, rfl⟩
    have HV := Lib.hid hv
    clear hv
    cases v0 with
    | false =>
      have hE : Hid (er = 1) := by
        show _ = _
        rw [← HFA.out]
        unfold factErr
        rw [if_neg (by rw [HRF.out]; simp), if_pos (by rw [HD0.out]; exact ⟨hz, of_decide_eq_false HV.out⟩)]
      clear hz
      go_wp2_with (first | (go_at_call 20; refine (eseedsat_any A1 _ _ A4 n1 c1 n2 c2 n3 c3 n4 c4 mn F mn sd _ (HS.out.later hkwr.toBelow) (by omega) hc4 HSR.out).mono ?_; rintro e w7 ⟨A7, n7, c7, rfl, hi7, hc7, hb7⟩; have HI7 := Lib.hid hi7; clear hi7) | (go_at_call 19; refine (contains_any A7 n7 c7 (seedF sd mn) d0 _ HI7.out (by have := HI7.out.1; have := HSN.out mn; omega)).mono ?_; rw [HV.out]; rintro e w8 ⟨rfl, rfl⟩))
      go_ret
      exact ⟨by rw [hE.out]; rfl, (keptTrans hkW (hkr.call hb7)).toBelow⟩
    | true =>
      have HST : Hid (¬ (gi fs 0 ≠ 0 ∧ gi fs 0 ∉ seedF sd mn)) := Lib.hid (fun h => h.2 (by rw [HD0.out]; exact of_decide_eq_true HV.out))
      clear hz
      go_upto_region 18 with (first | (go_at_call 20; refine (eseedsat_any A1 _ _ A4 n1 c1 n2 c2 n3 c3 n4 c4 mn F mn sd _ (HS.out.later hkwr.toBelow) (by omega) hc4 HSR.out).mono ?_; rintro e w7 ⟨A7, n7, c7, rfl, hi7, hc7, hb7⟩; have HI7 := Lib.hid hi7; clear hi7) | (go_at_call 19; refine (contains_any A7 n7 c7 (seedF sd mn) d0 _ HI7.out (by have := HI7.out.1; have := HSN.out mn; omega)).mono ?_; rw [HV.out]; rintro e w8 ⟨rfl, rfl⟩))
      have hk7 : Kept [] W w7 := hkr.call hb7
      have ⟨L7, C7, F7⟩ := hk7.blk (by simp) B0
      have ⟨L7', C7', F7'⟩ := hk7.blk (by simp) B1
      go_wp2_with fail
      go_loopw [73] (fun i wy => ∃ q : Nat, q ≤ n5 ∧ i = .int .i64 q ∧ Kept [] W wy ∧ Hid (∀ z, z < q → lnkErr ⟨ns, es, mn, F, ls, sd⟩ path fs z = 0)) (fun i _ => n5 - (intOf i).toNat)
      case atStart => exact ⟨0, Nat.zero_le _, rfl, hk7, Lib.hid (fun z h => absurd h (by omega))⟩
      case round =>
        rename World => wy
        clear CR FR CR' FR' r60 C7 F7 C7' F7'
        obtain ⟨q, hq, rfl, hky, hlk⟩ := hrel
        have ⟨LY, CY, FY⟩ := hky.blk (by simp) B0
        have ⟨LY', CY', FY'⟩ := hky.blk (by simp) B1
        have hkwy : Kept [] w wy := keptTrans hkW hky
        by_cases hlt : q < n5
        case neg =>
          obtain rfl : q = n5 := by omega
          have hE : Hid (er = 0) := by
            show _ = _
            rw [← HFA.out]
            unfold factErr
            rw [if_neg (by rw [HRF.out]; simp), if_neg HST.out]
            exact Go.Df.Sp.fe_ok path.length 0 (fun i _ hi => hlk.out i (by rw [← HPL.out]; omega))
          go_wp2_with fail
          go_ret
          exact ⟨by rw [hE.out]; rfl, hkwy.toBelow⟩
        obtain ⟨b5, o5, rfl, hl5, hc5⟩ := HP.out.2 (by omega)
        have hpj := HPI.out q (by rw [HPL.out]; exact hlt)
        obtain ⟨k, hk⟩ := Int.eq_ofNat_of_zero_le hpj.1
        have r5 : wy.cell? ⟨b5, o5 + q, none⟩ = some (.int .i64 k) := by rw [← hk]; exact (hkwy.cell b5 _ hl5 (by simp)).trans (hc5 q hlt)
        have hl5r : b5 < wy.heap.size := Nat.lt_of_lt_of_le hl5 hkwy.size
        have hl6y : b6 < wy.heap.size := Nat.lt_of_lt_of_le hl6 hkwy.size
        have hk2 : k < n2 := by have := HG.out.ed.1; omega
        have hk3 : k < n3 := by have := HG.out.ed.1; have := HF.out.1; have h9 : ls.length = es.length := HO.out.len; omega
        have HK := Lib.hid hk
        have hj1 : (q : Int) < (n5 : Int) := by omega
        have hj6 : (q : Int) < (j : Int) := by have := HLEN.out; omega
        have hj7 : (q : Int) + 1 < (j : Int) := by have := HLEN.out; omega
        have hj8 : q < j := by omega
        have hj9 : q + 1 < j := by omega
        have hk2' : (k : Int) < (n2 : Int) := by omega
        have hk3' : (k : Int) < (n3 : Int) := by omega
        clear hk hpj hc5
        have ra := (hkwy.cell b6 _ hl6 (by simp)).trans (HC6.out q hj8)
        have rb := (hkwy.cell b6 _ hl6 (by simp)).trans (HC6.out (q + 1) hj9)
        obtain ⟨x, hx⟩ : ∃ x, gi fs q = x := ⟨_, rfl⟩
        obtain ⟨y, hy⟩ : ∃ y, gi fs (q + 1) = y := ⟨_, rfl⟩
        rw [hx] at ra
        rw [hy] at rb
        have HXX := Lib.hid hx
        have HYY := Lib.hid hy
        clear hx hy
        have HLK : Hid (∀ v, linkB ⟨ns, es, mn, F, ls, sd⟩ k x y = v → lnkErr ⟨ns, es, mn, F, ls, sd⟩ path fs q = if v = false then 1 else 0) := Lib.hid (fun v hv => by
          unfold lnkErr
          rw [HK.out, HXX.out, HYY.out]
          rw [show ((k : Int)).toNat = k from rfl, hv])
        have HOKN : Hid (linkB ⟨ns, es, mn, F, ls, sd⟩ k x y = true → ∀ z, z < q + 1 → lnkErr ⟨ns, es, mn, F, ls, sd⟩ path fs z = 0) := Lib.hid (fun hv z hz => by
          rcases Nat.lt_or_ge z q with h9 | h9
          · exact hlk.out z h9
          · obtain rfl : z = q := by omega
            rw [HLK.out true hv]; rfl)
        have HBAD : Hid (linkB ⟨ns, es, mn, F, ls, sd⟩ k x y = false → er = 1) := Lib.hid (fun hv => by
          rw [← HFA.out]
          unfold factErr
          rw [if_neg (by rw [HRF.out]; simp), if_neg HST.out]
          exact Go.Df.Sp.fe_hit hlk.out (by rw [HPL.out]; exact hlt) (by rw [HLK.out false hv]; rfl) (by omega))
        obtain ⟨b3, o3, rfl, hl3, hc3⟩ := HF.out.2 (by omega)
        obtain ⟨Ai, ni, ci, hcell3, hnc3, hprs⟩ := hc3 k hk3
        have r3 := (hkwy.cell b3 _ hl3 (by simp)).trans hcell3
        have hl3y : b3 < wy.heap.size := Nat.lt_of_lt_of_le hl3 hkwy.size
        have HPR := Lib.hid hprs
        have hflk := HO.out.fl k (by have h9 : ls.length = n3 := HF.out.1; show k < ls.length; omega)
        have hni : ni ≤ 8192 := by have h9 := hprs.1; have h8 := hflk.1; dsimp only at h8; omega
        obtain ⟨b2, o2, rfl, hl2, hc2⟩ := HG.out.ed.2 (by omega)
        obtain ⟨nd, hnd⟩ : ∃ nd, (ge es k).b = nd := ⟨_, rfl⟩
        have r2 := (hkwy.cell b2 _ hl2 (by simp)).trans (hc2 k hk2).2.1
        rw [hnd] at r2
        have hl2y : b2 < wy.heap.size := Nat.lt_of_lt_of_le hl2 hkwy.size
        have HLB : Hid (linkB ⟨ns, es, mn, F, ls, sd⟩ k x y = (decide ((⟨x, y⟩ : Pr) ∈ gf ls k) || (decide (x = 0) && decide (y ∈ seedF sd nd)))) := Lib.hid (by unfold linkB; rw [← hnd])
        obtain ⟨v, hv⟩ : ∃ v, decide ((⟨x, y⟩ : Pr) ∈ gf ls k) = v := ⟨_, rfl⟩
        have HV := Lib.hid hv
        clear hprs hcell3 hc3 hc2 hnd hflk hv
        cases v with
        | true =>
          have HN := Lib.hid (HOKN.out (by rw [HLB.out, HV.out]; rfl))
          go_upto_region 21 with fail
          go_quiet (fail)
          go_wp2_with (go_at_call 21; refine (containsp_any Ai ni ci (gf ls k) x y _ (HPR.out.later (hkwy.drewN _).toBelow) (by omega)).mono ?_; rw [HV.out]; rintro e w4 ⟨rfl, hb4⟩)
          exact ⟨⟨q + 1, by omega, by go_num, keptTrans hky (((Kept.refl [] wy).drewN _).call hb4), HN⟩, by simp [intOf]; omega⟩
        | false =>
          go_upto_region 21 with fail
          go_quiet (fail)
          go_upto_region 23 with (go_at_call 21; refine (containsp_any Ai ni ci (gf ls k) x y _ (HPR.out.later (hkwy.drewN _).toBelow) (by omega)).mono ?_; rw [HV.out]; rintro e w4 ⟨rfl, hb4⟩)
          have hkx : Kept [] wy w4 := ((Kept.refl [] wy).drewN _).call hb4
          have hkX : Kept [] W w4 := keptTrans hky hkx
          have hkwX : Kept [] w w4 := keptTrans hkW hkX
          have ⟨LX, CX, FX⟩ := hkX.blk (by simp) B0
          have ⟨LX', CX', FX'⟩ := hkX.blk (by simp) B1
          have r2x := (hkx.cell b2 _ hl2y (by simp)).trans r2
          have hl2x : b2 < w4.heap.size := Nat.lt_of_lt_of_le hl2y hkx.size
          clear CY FY CY' FY' ra rb r5 r3 r2
          by_cases hx0 : x = 0
          · subst hx0
            obtain ⟨u, hu⟩ : ∃ u, decide (y ∈ seedF sd nd) = u := ⟨_, rfl⟩
            have HU := Lib.hid hu
            have HLU : Hid (linkB ⟨ns, es, mn, F, ls, sd⟩ k 0 y = u) := Lib.hid (by rw [HLB.out, HV.out, hu]; rfl)
            clear hu
            go_upto_region 23 with fail
            refine wp_region_E 15 (fun w' => SX0 w4 w') (by kernel_rfl) (by (repeat' first | (with_reducible assumption) | (with_reducible exact SX0.init _) | (with_reducible exact SX0.refl _) | (with_reducible refine SX0.alloc ?_ _) | (with_reducible refine SX0.call ?_ (by assumption)) | (with_reducible refine SX0.set ?_ _ _ _ ?_) | (with_reducible refine SX0.drew ?_) | (simp; done) | omega | (simp; omega))) (fun hHeld => ?_)
            refine WE_take 0 (v := ?_) rfl (by kernel_rfl) (fun _ _ _ h => h) (Or.inl ⟨by rfl, ?_⟩) (by assumption) ?_; rotate_left; (· intro w9 hSw; (try dsimp only at hSw); go_simp; try with_reducible rfl); (try simp only [Act.put, List.setIfInBounds_toArray, List.set_cons_zero, List.set_cons_succ])
            refine WE_take 1 (v := ?_) rfl (by kernel_rfl) (fun _ _ _ h => h) (Or.inl ⟨by rfl, ?_⟩) (by assumption) ?_; rotate_left; (· intro w9 hSw; (try dsimp only at hSw); go_simp; try with_reducible rfl); (try simp only [Act.put, List.setIfInBounds_toArray, List.set_cons_zero, List.set_cons_succ])
            refine WE_take 2 (v := ?_) rfl (by kernel_rfl) (fun _ _ _ h => h) (Or.inl ⟨by rfl, ?_⟩) (by assumption) ?_; rotate_left; (· intro w9 hSw; (try dsimp only at hSw); go_simp; try with_reducible rfl); (try simp only [Act.put, List.setIfInBounds_toArray, List.set_cons_zero, List.set_cons_succ])
            first | (refine WE_take 3 (v := undef) rfl (by kernel_rfl) (fun _ _ _ h => h) (Or.inr ⟨by rfl, rfl⟩) (by assumption) ?_; (try simp only [Act.put, List.setIfInBounds_toArray, List.set_cons_zero, List.set_cons_succ])) | (refine WE_take 3 (v := ?_) rfl (by kernel_rfl) (fun _ _ _ h => h) (Or.inl ⟨by rfl, ?_⟩) (by assumption) ?_; rotate_left; (· intro w9 hSw; (try dsimp only at hSw); go_simp; try with_reducible rfl); (try simp only [Act.put, List.setIfInBounds_toArray, List.set_cons_zero, List.set_cons_succ]))
            first | (refine WE_take 4 (v := undef) rfl (by kernel_rfl) (fun _ _ _ h => h) (Or.inr ⟨by rfl, rfl⟩) (by assumption) ?_; (try simp only [Act.put, List.setIfInBounds_toArray, List.set_cons_zero, List.set_cons_succ])) | (refine WE_take 4 (v := ?_) rfl (by kernel_rfl) (fun _ _ _ h => h) (Or.inl ⟨by rfl, ?_⟩) (by assumption) ?_; rotate_left; (· intro w9 hSw; (try dsimp only at hSw); go_simp; try with_reducible rfl); (try simp only [Act.put, List.setIfInBounds_toArray, List.set_cons_zero, List.set_cons_succ]))
            first | (refine WE_take 5 (v := undef) rfl (by kernel_rfl) (fun _ _ _ h => h) (Or.inr ⟨by rfl, rfl⟩) (by assumption) ?_; (try simp only [Act.put, List.setIfInBounds_toArray, List.set_cons_zero, List.set_cons_succ])) | (refine WE_take 5 (v := ?_) rfl (by kernel_rfl) (fun _ _ _ h => h) (Or.inl ⟨by rfl, ?_⟩) (by assumption) ?_; rotate_left; (· intro w9 hSw; (try dsimp only at hSw); go_simp; try with_reducible rfl); (try simp only [Act.put, List.setIfInBounds_toArray, List.set_cons_zero, List.set_cons_succ]))
            first | (refine WE_take 6 (v := undef) rfl (by kernel_rfl) (fun _ _ _ h => h) (Or.inr ⟨by rfl, rfl⟩) (by assumption) ?_; (try simp only [Act.put, List.setIfInBounds_toArray, List.set_cons_zero, List.set_cons_succ])) | (refine WE_take 6 (v := ?_) rfl (by kernel_rfl) (fun _ _ _ h => h) (Or.inl ⟨by rfl, ?_⟩) (by assumption) ?_; rotate_left; (· intro w9 hSw; (try dsimp only at hSw); go_simp; try with_reducible rfl); (try simp only [Act.put, List.setIfInBounds_toArray, List.set_cons_zero, List.set_cons_succ]))
            first | (refine WE_take 7 (v := undef) rfl (by kernel_rfl) (fun _ _ _ h => h) (Or.inr ⟨by rfl, rfl⟩) (by assumption) ?_; (try simp only [Act.put, List.setIfInBounds_toArray, List.set_cons_zero, List.set_cons_succ])) | (refine WE_take 7 (v := ?_) rfl (by kernel_rfl) (fun _ _ _ h => h) (Or.inl ⟨by rfl, ?_⟩) (by assumption) ?_; rotate_left; (· intro w9 hSw; (try dsimp only at hSw); go_simp; try with_reducible rfl); (try simp only [Act.put, List.setIfInBounds_toArray, List.set_cons_zero, List.set_cons_succ]))
            first | (refine WE_take 8 (v := undef) rfl (by kernel_rfl) (fun _ _ _ h => h) (Or.inr ⟨by rfl, rfl⟩) (by assumption) ?_; (try simp only [Act.put, List.setIfInBounds_toArray, List.set_cons_zero, List.set_cons_succ])) | (refine WE_take 8 (v := ?_) rfl (by kernel_rfl) (fun _ _ _ h => h) (Or.inl ⟨by rfl, ?_⟩) (by assumption) ?_; rotate_left; (· intro w9 hSw; (try dsimp only at hSw); go_simp; try with_reducible rfl); (try simp only [Act.put, List.setIfInBounds_toArray, List.set_cons_zero, List.set_cons_succ]))
            first | (refine WE_take 9 (v := undef) rfl (by kernel_rfl) (fun _ _ _ h => h) (Or.inr ⟨by rfl, rfl⟩) (by assumption) ?_; (try simp only [Act.put, List.setIfInBounds_toArray, List.set_cons_zero, List.set_cons_succ])) | (refine WE_take 9 (v := ?_) rfl (by kernel_rfl) (fun _ _ _ h => h) (Or.inl ⟨by rfl, ?_⟩) (by assumption) ?_; rotate_left; (· intro w9 hSw; (try dsimp only at hSw); go_simp; try with_reducible rfl); (try simp only [Act.put, List.setIfInBounds_toArray, List.set_cons_zero, List.set_cons_succ]))
            first | (refine WE_take 10 (v := undef) rfl (by kernel_rfl) (fun _ _ _ h => h) (Or.inr ⟨by rfl, rfl⟩) (by assumption) ?_; (try simp only [Act.put, List.setIfInBounds_toArray, List.set_cons_zero, List.set_cons_succ])) | (refine WE_take 10 (v := ?_) rfl (by kernel_rfl) (fun _ _ _ h => h) (Or.inl ⟨by rfl, ?_⟩) (by assumption) ?_; rotate_left; (· intro w9 hSw; (try dsimp only at hSw); go_simp; try with_reducible rfl); (try simp only [Act.put, List.setIfInBounds_toArray, List.set_cons_zero, List.set_cons_succ]))
            first | (refine WE_take 12 (v := undef) rfl (by kernel_rfl) (fun _ _ _ h => h) (Or.inr ⟨by rfl, rfl⟩) (by assumption) ?_; (try simp only [Act.put, List.setIfInBounds_toArray, List.set_cons_zero, List.set_cons_succ])) | (refine WE_take 12 (v := ?_) rfl (by kernel_rfl) (fun _ _ _ h => h) (Or.inl ⟨by rfl, ?_⟩) (by assumption) ?_; rotate_left; (· intro w9 hSw; (try dsimp only at hSw); go_simp; try with_reducible rfl); (try simp only [Act.put, List.setIfInBounds_toArray, List.set_cons_zero, List.set_cons_succ]))
            refine WE_step 11 rfl (by kernel_rfl) (fun K hK => ?_)
            go_simp
            (first | (go_at_call 20; refine (eseedsat_any A1 _ _ A4 n1 c1 n2 c2 n3 c3 n4 c4 mn F nd sd _ (HS.out.later (keptTrans hkwX hHeld.1).toBelow) (by omega) hc4 HSR.out).mono ?_; rintro e w7 ⟨A7, n7, c7, rfl, hi7, hc7, hb7⟩; have HI7 := Lib.hid hi7; clear hi7) | (go_at_call 19; refine (contains_any A7 n7 c7 (seedF sd nd) y _ HI7.out (by have := HI7.out.1; have := HSN.out nd; omega)).mono ?_; rw [HU.out]; rintro e w8 ⟨rfl, rfl⟩))
            (try go_wp2_with fail)
            refine hK.out _ _ ?_ (fun hHeld => ?_)
            · (repeat' first | (with_reducible assumption) | (with_reducible exact SX0.init _) | (with_reducible exact SX0.refl _) | (with_reducible refine SX0.alloc ?_ _) | (with_reducible refine SX0.call ?_ (by assumption)) | (with_reducible refine SX0.set ?_ _ _ _ ?_) | (with_reducible refine SX0.drew ?_) | (simp; done) | omega | (simp; omega))
            clear hK K
            try simp only [Act.put, List.setIfInBounds_toArray, List.set_cons_zero, List.set_cons_succ]
            refine WE_step 13 rfl (by kernel_rfl) (fun K hK => ?_)
            go_simp
            (first | (go_at_call 20; refine (eseedsat_any A1 _ _ A4 n1 c1 n2 c2 n3 c3 n4 c4 mn F nd sd _ (HS.out.later (keptTrans hkwX hHeld.1).toBelow) (by omega) hc4 HSR.out).mono ?_; rintro e w7 ⟨A7, n7, c7, rfl, hi7, hc7, hb7⟩; have HI7 := Lib.hid hi7; clear hi7) | (go_at_call 19; refine (contains_any A7 n7 c7 (seedF sd nd) y _ HI7.out (by have := HI7.out.1; have := HSN.out nd; omega)).mono ?_; rw [HU.out]; rintro e w8 ⟨rfl, rfl⟩))
            (try go_wp2_with fail)
            refine hK.out _ _ ?_ (fun hHeld => ?_)
            · (repeat' first | (with_reducible assumption) | (with_reducible exact SX0.init _) | (with_reducible exact SX0.refl _) | (with_reducible refine SX0.alloc ?_ _) | (with_reducible refine SX0.call ?_ (by assumption)) | (with_reducible refine SX0.set ?_ _ _ _ ?_) | (with_reducible refine SX0.drew ?_) | (simp; done) | omega | (simp; omega))
            clear hK K
            try simp only [Act.put, List.setIfInBounds_toArray, List.set_cons_zero, List.set_cons_succ]
            first | (refine WE_take 14 (v := undef) rfl (by kernel_rfl) (fun _ _ _ h => h) (Or.inr ⟨by rfl, rfl⟩) (by assumption) ?_; (try simp only [Act.put, List.setIfInBounds_toArray, List.set_cons_zero, List.set_cons_succ])) | (refine WE_take 14 (v := ?_) rfl (by kernel_rfl) (fun _ _ _ h => h) (Or.inl ⟨by rfl, ?_⟩) (by assumption) ?_; rotate_left; (· intro w9 hSw; (try dsimp only at hSw); go_simp; try with_reducible rfl); (try simp only [Act.put, List.setIfInBounds_toArray, List.set_cons_zero, List.set_cons_succ]))
            refine WE_last rfl (by kernel_rfl) (fun K hK => ?_)
            go_simp
            refine hK.out _ _ ?_
            clear hK K
            have hky9 : Kept [] W w7 := keptTrans hkX hHeld.1
            cases u with
            | true =>
              have HN := Lib.hid (HOKN.out HLU.out)
              go_wp2_with fail
              exact ⟨⟨q + 1, by omega, by go_num, hky9, HN⟩, by simp [intOf]; omega⟩
            | false =>
              have hE := Lib.hid (HBAD.out HLU.out)
              go_wp2_with fail
              go_ret
              exact ⟨by rw [hE.out]; rfl, (keptTrans hkW hky9).toBelow⟩
          · have z1 : (x != 0) = true := by simpa using hx0
            have hE := Lib.hid (HBAD.out (by rw [HLB.out, HV.out, decide_eq_false hx0]; rfl))
            clear hx0
            go_upto_region 23 with fail
            refine wp_region_E 15 (fun w' => SX0 w4 w') (by kernel_rfl) (by (repeat' first | (with_reducible assumption) | (with_reducible exact SX0.init _) | (with_reducible exact SX0.refl _) | (with_reducible refine SX0.alloc ?_ _) | (with_reducible refine SX0.call ?_ (by assumption)) | (with_reducible refine SX0.set ?_ _ _ _ ?_) | (with_reducible refine SX0.drew ?_) | (simp; done) | omega | (simp; omega))) (fun hHeld => ?_)
            refine WE_take 0 (v := ?_) rfl (by kernel_rfl) (fun _ _ _ h => h) (Or.inl ⟨by rfl, ?_⟩) (by assumption) ?_; rotate_left; (· intro w9 hSw; (try dsimp only at hSw); go_simp; try with_reducible rfl); (try simp only [Act.put, List.setIfInBounds_toArray, List.set_cons_zero, List.set_cons_succ])
            refine WE_take 1 (v := ?_) rfl (by kernel_rfl) (fun _ _ _ h => h) (Or.inl ⟨by rfl, ?_⟩) (by assumption) ?_; rotate_left; (· intro w9 hSw; (try dsimp only at hSw); go_simp; try with_reducible rfl); (try simp only [Act.put, List.setIfInBounds_toArray, List.set_cons_zero, List.set_cons_succ])
            refine WE_take 2 (v := ?_) rfl (by kernel_rfl) (fun _ _ _ h => h) (Or.inl ⟨by rfl, ?_⟩) (by assumption) ?_; rotate_left; (· intro w9 hSw; (try dsimp only at hSw); go_simp; try with_reducible rfl); (try simp only [Act.put, List.setIfInBounds_toArray, List.set_cons_zero, List.set_cons_succ])
            first | (refine WE_take 3 (v := undef) rfl (by kernel_rfl) (fun _ _ _ h => h) (Or.inr ⟨by rfl, rfl⟩) (by assumption) ?_; (try simp only [Act.put, List.setIfInBounds_toArray, List.set_cons_zero, List.set_cons_succ])) | (refine WE_take 3 (v := ?_) rfl (by kernel_rfl) (fun _ _ _ h => h) (Or.inl ⟨by rfl, ?_⟩) (by assumption) ?_; rotate_left; (· intro w9 hSw; (try dsimp only at hSw); go_simp; try with_reducible rfl); (try simp only [Act.put, List.setIfInBounds_toArray, List.set_cons_zero, List.set_cons_succ]))
            first | (refine WE_take 4 (v := undef) rfl (by kernel_rfl) (fun _ _ _ h => h) (Or.inr ⟨by rfl, rfl⟩) (by assumption) ?_; (try simp only [Act.put, List.setIfInBounds_toArray, List.set_cons_zero, List.set_cons_succ])) | (refine WE_take 4 (v := ?_) rfl (by kernel_rfl) (fun _ _ _ h => h) (Or.inl ⟨by rfl, ?_⟩) (by assumption) ?_; rotate_left; (· intro w9 hSw; (try dsimp only at hSw); go_simp; try with_reducible rfl); (try simp only [Act.put, List.setIfInBounds_toArray, List.set_cons_zero, List.set_cons_succ]))
            first | (refine WE_take 5 (v := undef) rfl (by kernel_rfl) (fun _ _ _ h => h) (Or.inr ⟨by rfl, rfl⟩) (by assumption) ?_; (try simp only [Act.put, List.setIfInBounds_toArray, List.set_cons_zero, List.set_cons_succ])) | (refine WE_take 5 (v := ?_) rfl (by kernel_rfl) (fun _ _ _ h => h) (Or.inl ⟨by rfl, ?_⟩) (by assumption) ?_; rotate_left; (· intro w9 hSw; (try dsimp only at hSw); go_simp; try with_reducible rfl); (try simp only [Act.put, List.setIfInBounds_toArray, List.set_cons_zero, List.set_cons_succ]))
            first | (refine WE_take 6 (v := undef) rfl (by kernel_rfl) (fun _ _ _ h => h) (Or.inr ⟨by rfl, rfl⟩) (by assumption) ?_; (try simp only [Act.put, List.setIfInBounds_toArray, List.set_cons_zero, List.set_cons_succ])) | (refine WE_take 6 (v := ?_) rfl (by kernel_rfl) (fun _ _ _ h => h) (Or.inl ⟨by rfl, ?_⟩) (by assumption) ?_; rotate_left; (· intro w9 hSw; (try dsimp only at hSw); go_simp; try with_reducible rfl); (try simp only [Act.put, List.setIfInBounds_toArray, List.set_cons_zero, List.set_cons_succ]))
            first | (refine WE_take 7 (v := undef) rfl (by kernel_rfl) (fun _ _ _ h => h) (Or.inr ⟨by rfl, rfl⟩) (by assumption) ?_; (try simp only [Act.put, List.setIfInBounds_toArray, List.set_cons_zero, List.set_cons_succ])) | (refine WE_take 7 (v := ?_) rfl (by kernel_rfl) (fun _ _ _ h => h) (Or.inl ⟨by rfl, ?_⟩) (by assumption) ?_; rotate_left; (· intro w9 hSw; (try dsimp only at hSw); go_simp; try with_reducible rfl); (try simp only [Act.put, List.setIfInBounds_toArray, List.set_cons_zero, List.set_cons_succ]))
            first | (refine WE_take 8 (v := undef) rfl (by kernel_rfl) (fun _ _ _ h => h) (Or.inr ⟨by rfl, rfl⟩) (by assumption) ?_; (try simp only [Act.put, List.setIfInBounds_toArray, List.set_cons_zero, List.set_cons_succ])) | (refine WE_take 8 (v := ?_) rfl (by kernel_rfl) (fun _ _ _ h => h) (Or.inl ⟨by rfl, ?_⟩) (by assumption) ?_; rotate_left; (· intro w9 hSw; (try dsimp only at hSw); go_simp; try with_reducible rfl); (try simp only [Act.put, List.setIfInBounds_toArray, List.set_cons_zero, List.set_cons_succ]))
            first | (refine WE_take 9 (v := undef) rfl (by kernel_rfl) (fun _ _ _ h => h) (Or.inr ⟨by rfl, rfl⟩) (by assumption) ?_; (try simp only [Act.put, List.setIfInBounds_toArray, List.set_cons_zero, List.set_cons_succ])) | (refine WE_take 9 (v := ?_) rfl (by kernel_rfl) (fun _ _ _ h => h) (Or.inl ⟨by rfl, ?_⟩) (by assumption) ?_; rotate_left; (· intro w9 hSw; (try dsimp only at hSw); go_simp; try with_reducible rfl); (try simp only [Act.put, List.setIfInBounds_toArray, List.set_cons_zero, List.set_cons_succ]))
            first | (refine WE_take 10 (v := undef) rfl (by kernel_rfl) (fun _ _ _ h => h) (Or.inr ⟨by rfl, rfl⟩) (by assumption) ?_; (try simp only [Act.put, List.setIfInBounds_toArray, List.set_cons_zero, List.set_cons_succ])) | (refine WE_take 10 (v := ?_) rfl (by kernel_rfl) (fun _ _ _ h => h) (Or.inl ⟨by rfl, ?_⟩) (by assumption) ?_; rotate_left; (· intro w9 hSw; (try dsimp only at hSw); go_simp; try with_reducible rfl); (try simp only [Act.put, List.setIfInBounds_toArray, List.set_cons_zero, List.set_cons_succ]))
            first | (refine WE_take 12 (v := undef) rfl (by kernel_rfl) (fun _ _ _ h => h) (Or.inr ⟨by rfl, rfl⟩) (by assumption) ?_; (try simp only [Act.put, List.setIfInBounds_toArray, List.set_cons_zero, List.set_cons_succ])) | (refine WE_take 12 (v := ?_) rfl (by kernel_rfl) (fun _ _ _ h => h) (Or.inl ⟨by rfl, ?_⟩) (by assumption) ?_; rotate_left; (· intro w9 hSw; (try dsimp only at hSw); go_simp; try with_reducible rfl); (try simp only [Act.put, List.setIfInBounds_toArray, List.set_cons_zero, List.set_cons_succ]))
            refine WE_step 11 rfl (by kernel_rfl) (fun K hK => ?_)
            go_simp
            skip
            (try go_wp2_with fail)
            refine hK.out _ _ ?_ (fun hHeld => ?_)
            · (repeat' first | (with_reducible assumption) | (with_reducible exact SX0.init _) | (with_reducible exact SX0.refl _) | (with_reducible refine SX0.alloc ?_ _) | (with_reducible refine SX0.call ?_ (by assumption)) | (with_reducible refine SX0.set ?_ _ _ _ ?_) | (with_reducible refine SX0.drew ?_) | (simp; done) | omega | (simp; omega))
            clear hK K
            try simp only [Act.put, List.setIfInBounds_toArray, List.set_cons_zero, List.set_cons_succ]
            refine WE_step 13 rfl (by kernel_rfl) (fun K hK => ?_)
            go_simp
            skip
            (try go_wp2_with fail)
            refine hK.out _ _ ?_ (fun hHeld => ?_)
            · (repeat' first | (with_reducible assumption) | (with_reducible exact SX0.init _) | (with_reducible exact SX0.refl _) | (with_reducible refine SX0.alloc ?_ _) | (with_reducible refine SX0.call ?_ (by assumption)) | (with_reducible refine SX0.set ?_ _ _ _ ?_) | (with_reducible refine SX0.drew ?_) | (simp; done) | omega | (simp; omega))
            clear hK K
            try simp only [Act.put, List.setIfInBounds_toArray, List.set_cons_zero, List.set_cons_succ]
            first | (refine WE_take 14 (v := undef) rfl (by kernel_rfl) (fun _ _ _ h => h) (Or.inr ⟨by rfl, rfl⟩) (by assumption) ?_; (try simp only [Act.put, List.setIfInBounds_toArray, List.set_cons_zero, List.set_cons_succ])) | (refine WE_take 14 (v := ?_) rfl (by kernel_rfl) (fun _ _ _ h => h) (Or.inl ⟨by rfl, ?_⟩) (by assumption) ?_; rotate_left; (· intro w9 hSw; (try dsimp only at hSw); go_simp; try with_reducible rfl); (try simp only [Act.put, List.setIfInBounds_toArray, List.set_cons_zero, List.set_cons_succ]))
            refine WE_last rfl (by kernel_rfl) (fun K hK => ?_)
            go_simp
            refine hK.out _ _ ?_
            clear hK K
            go_wp2_with fail
            go_ret
            exact ⟨by rw [hE.out]; rfl, (keptTrans hkwX hHeld.1).toBelow⟩
end Go.Proofs.YtffkikhknabddaaGreat
