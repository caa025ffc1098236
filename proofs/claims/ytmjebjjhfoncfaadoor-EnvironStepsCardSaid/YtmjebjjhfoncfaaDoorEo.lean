/- The contracts of the reference's along and Along. -/
import Derived.Test.YtmjebjjhfoncfaaDoorEn
import Derived.Test.YtmjebjjhfoncfaaDoorEe
namespace Go.Proofs.YtmjebjjhfoncfaaDoor
open Go.RowKit Go.Df
attribute [local go_sem ↓] Go.wp_at_zero Go.wp_at_succ
theorem runS_in {es : List Sp.Ed} : ∀ (path : List Int) {a : Int} {cs : List Int}, (Sp.runS es a cs path).1 = 0 → ∀ j, j < path.length → 0 ≤ gi path j ∧ gi path j < es.length
  | [], _, _, _, j, hj => absurd hj (by simp)
  | k :: r, a, cs, h, j, hj => by
    rw [Sp.runS] at h
    split at h
    · rename_i h0; exact absurd h h0
    · rename_i h0
      have h1 : (Sp.stepS es a cs k).1 = 0 := Decidable.byContradiction h0
      have h2 : 0 ≤ k ∧ k < es.length := by
        unfold Sp.stepS at h1
        split at h1
        · cases h1
        · omega
      cases j with
      | zero => simpa [gi] using h2
      | succ j =>
        have := runS_in r h j (by simpa using hj)
        simpa [gi] using this
/-- The error of Along. -/
def alErr (ns : List Sp.Nd) (es : List Sp.Ed) (mn F : Int) (ls : List (List Sp.Xp)) (sd : List Sp.Vs) (path : List Int) : Int :=
  if Sp.ideErr ns es mn F ls sd ≠ 0 then Sp.ideErr ns es mn F ls sd else (Sp.followS ns es mn mn path).1
theorem follow_in {ns : List Sp.Nd} {es : List Sp.Ed} {mn fr : Int} {path : List Int} (h : (Sp.followS ns es mn fr path).1 = 0) : path.length ≤ 4096 ∧ ∀ j, j < path.length → 0 ≤ gi path j ∧ gi path j < es.length := by
  unfold Sp.followS at h
  split at h
  · rename_i h0; exact absurd h h0
  · split at h
    · cases h
    · exact ⟨by omega, runS_in path h⟩

set_option maxRecDepth 100000 in
set_option maxHeartbeats 40000000 in
theorem ralong_any (A1 A2 A3 A4 A5 : Option Addr) (n1 c1 n2 c2 n3 c3 n4 c4 n5 c5 F : Nat) (mn : Int) (ns : List Sp.Nd) (es : List Sp.Ed) (ls : List (List Sp.Xp)) (sd : List Sp.Vs) (path : List Int) (w : World) (he : Eds w A2 n2 es) (hf : Fls w A3 n3 ls) (hs : Vss w A4 n4 sd) (hp : Ints w A5 n5 path) (hn4 : n4 ≤ 9223372036854775806)
    (hok : PrOk ns es mn F ls sd) (hpl : path.length ≤ 4096) (hpi : ∀ j, j < path.length → 0 ≤ gi path j ∧ gi path j < es.length) :
    Calls Tryd.prog 24 #[.agg #[.slice A1 n1 c1, .slice A2 n2 c2, .int .i64 mn, .int .i64 F, .slice A3 n3 c3, .slice A4 n4 c4], .slice A5 n5 c5] w fun e w' =>
      ∃ g c, e = .returned (.slice (some ⟨g, 0, none⟩) F c) ∧ Vals w' g F (runJ Xf.rmeetV Xf.rapply es ls sd mn path path.length) ∧ w.heap.size ≤ g ∧ F ≤ c ∧ Below w.heap.size w w' := by
  have HE := Lib.hid he
  have HF := Lib.hid hf
  have HS := Lib.hid hs
  have HP := Lib.hid hp
  have HPN := Lib.hid hp.1
  have HPI := Lib.hid hpi
  have HO := Lib.hid hok
  have hF1 : 1 ≤ F := by have := hok.f1; omega
  have hF2 : F ≤ 1024 := by have := hok.f2; omega
  have HSD : Hid (∀ j, j < n4 → 0 ≤ (Sp.gs sd j).f ∧ (Sp.gs sd j).f < F) := fun j hj => by have := HO.out.sin j (by rw [HS.out.1]; exact hj); omega
  have hn5 : n5 ≤ 4096 := by have := hp.1; omega
  clear he hf hs hp hpi hok hpl
  go_enter Tryd.func24, Tryd.ntmps24
  go_upto_region 1 with fail
  refine wp_named (fun W => ∃ b0, w.heap.size = b0 ∧ Blk W b0 [.slice A1 n1 c1, .slice A2 n2 c2, .int .i64 mn, .int .i64 F, .slice A3 n3 c3, .slice A4 n4 c4] ∧ Below w.heap.size w W) ⟨_, rfl, ?_, ?_⟩ ?_
  · exact Blk.new _ _ _ _ (by first | rfl | simp)
  · go_grown
  rintro W ⟨b0, e0, B0, hB⟩
  rw [e0]
  have G0 : w.heap.size ≤ b0 := by omega
  clear e0
  have ⟨L0, C0, F0⟩ := B0
  have hkW : Kept [] w W := (Kept.refl _ _).call hB
  have hWs := hkW.size
  have hF0 : (0 : Int) < (F : Int) := by omega
  go_upto_region 2 with (go_at_call 35; refine (tops_any F _ hF1 hF2).mono ?_; rintro e w1 ⟨g, c, rfl, hv1, hg1, hc1, hb1⟩)
  have V1 := Lib.hid hv1
  have v0 := hv1.c0 0 (by omega)
  have v1 := hv1.c1 0 (by omega)
  have f0 := hv1.fz
  have hgr := hv1.lt
  clear hv1
  have hgw : w.heap.size ≤ g := by omega
  have hb0g : b0 ≠ g := by omega
  go_upto_region 3 with fail
  refine wp_named (fun V => Vals V g F bot0 ∧ Kept [] W V) ⟨V1.out.put 0 ⟨2, 0⟩ (by omega), (((Kept.refl [] W).call hb1).set g _ _ (.inr hg1)).set g _ _ (.inr hg1)⟩ ?_
  rintro V ⟨hVV, hkV⟩
  have VV := Lib.hid hVV
  have hkwV : Kept [] w V := keptTrans hkW hkV
  have ⟨LV, CV, FV⟩ := hkV.blk (by simp) B0
  clear hVV C0 F0 v0 v1 f0 hgr V1 hb1
  go_wp2_with (go_at_call 48; refine (rmet_any A1 A2 A3 A4 n1 c1 n2 c2 n3 c3 n4 c4 g F c mn F mn sd bot0 w _ HS.out hn4 hkwV.toBelow hgw VV.out HSD.out).mono ?_; rintro e w5 ⟨rfl, hv5, hk5⟩; have V5 := Lib.hid hv5; clear hv5)
  have hk5' : Kept [] W w5 := kept_fresh hkV hk5 (by simpa using hg1)
  have hEq : Hid (metS Xf.rmeetV sd mn bot0 n4 = runJ Xf.rmeetV Xf.rapply es ls sd mn path 0) := by
    show _ = _
    rw [runJ, HS.out.1]
  go_loopw [5, 6] (fun s5 s6 wr => ∃ j g c : Nat, j ≤ n5 ∧ s5 = .slice (some ⟨g, 0, none⟩) F c ∧ s6 = .int .i64 j ∧ Kept [] W wr ∧ Hid (Vals wr g F (runJ Xf.rmeetV Xf.rapply es ls sd mn path j)) ∧ w.heap.size ≤ g ∧ F ≤ c) (fun _ i _ => n5 - (intOf i).toNat)
  case atStart => exact ⟨0, g, c, Nat.zero_le _, rfl, rfl, hk5', Lib.hid (hEq.out ▸ V5.out), hgw, hc1⟩
  case round =>
    clear CV FV hc1 hgw hg1 V5 hk5 hk5' VV hEq hb0g
    obtain ⟨j, g2, c2', hj, rfl, rfl, hkr, vr, hg2, hc2'⟩ := hrel
    have hkwr : Kept [] w wr := keptTrans hkW hkr
    have BR : Blk wr b0 _ := hkr.blk (by simp) B0
    have ⟨LR, CR, FR⟩ := BR
    by_cases hlt : j < n5
    case neg =>
      obtain rfl : j = n5 := by omega
      go_wp2_with fail
      go_ret
      exact ⟨g2, c2', rfl, by rw [HPN.out]; exact vr.out, hg2, hc2', hkwr.toBelow⟩
    obtain ⟨b5, o5, rfl, hl5, hc5⟩ := HP.out.2 (by omega)
    have hpj := HPI.out j (by rw [HPN.out]; exact hlt)
    obtain ⟨k, hk⟩ := Int.eq_ofNat_of_zero_le hpj.1
    have r5 : wr.cell? ⟨b5, o5 + j, none⟩ = some (.int .i64 k) := by rw [← hk]; exact (hkwr.cell b5 _ hl5 (by simp)).trans (hc5 j hlt)
    have hl5r : b5 < wr.heap.size := Nat.lt_of_lt_of_le hl5 hkwr.size
    have hk2 : k < n2 := by have := HE.out.1; omega
    have hk3 : k < n3 := by have := HE.out.1; have := HF.out.1; have := HO.out.len; omega
    have HK := Lib.hid hk
    have HPK := Lib.hid (HO.out.pin k (by rw [HF.out.1]; exact hk3))
    have hj1 : (j : Int) < (n5 : Int) := by omega
    clear hk hpj hc5
    have hEq : Hid (afterS Xf.rmeetV Xf.rapply sd (ge es k).b (Sp.gl ls k) (runJ Xf.rmeetV Xf.rapply es ls sd mn path j) = runJ Xf.rmeetV Xf.rapply es ls sd mn path (j + 1)) := by
      show _ = _
      rw [runJ, HK.out]
      rfl
    go_upto_region 7 with fail
    refine wp_region_E 7 (fun w' => SX0 wr w') (by kernel_rfl) (by (repeat' first | (with_reducible assumption) | (with_reducible exact SX0.init _) | (with_reducible exact SX0.refl _) | (with_reducible refine SX0.alloc ?_ _) | (with_reducible refine SX0.call ?_ (by assumption)) | (with_reducible refine SX0.set ?_ _ _ _ ?_) | (with_reducible refine SX0.drew ?_) | (simp; done) | omega | (simp; omega))) (fun hHeld => ?_)
    refine WE_take 0 (v := ?_) rfl (by kernel_rfl) (fun _ _ _ h => h) (Or.inl ⟨by rfl, ?_⟩) (by assumption) ?_; rotate_left; (· intro w9 hSw; (try dsimp only at hSw); go_simp; try with_reducible rfl); (try simp only [Act.put, List.setIfInBounds_toArray, List.set_cons_zero, List.set_cons_succ])
    refine WE_take 1 (v := ?_) rfl (by kernel_rfl) (fun _ _ _ h => h) (Or.inl ⟨by rfl, ?_⟩) (by assumption) ?_; rotate_left; (· intro w9 hSw; (try dsimp only at hSw); go_simp; try with_reducible rfl); (try simp only [Act.put, List.setIfInBounds_toArray, List.set_cons_zero, List.set_cons_succ])
    refine WE_take 2 (v := ?_) rfl (by kernel_rfl) (fun _ _ _ h => h) (Or.inl ⟨by rfl, ?_⟩) (by assumption) ?_; rotate_left; (· intro w9 hSw; (try dsimp only at hSw); go_simp; try with_reducible rfl); (try simp only [Act.put, List.setIfInBounds_toArray, List.set_cons_zero, List.set_cons_succ])
    refine WE_take 3 (v := ?_) rfl (by kernel_rfl) (fun _ _ _ h => h) (Or.inl ⟨by rfl, ?_⟩) (by assumption) ?_; rotate_left; (· intro w9 hSw; (try dsimp only at hSw); go_simp; try with_reducible rfl); (try simp only [Act.put, List.setIfInBounds_toArray, List.set_cons_zero, List.set_cons_succ])
    refine WE_take 4 (v := ?_) rfl (by kernel_rfl) (fun _ _ _ h => h) (Or.inl ⟨by rfl, ?_⟩) (by assumption) ?_; rotate_left; (· intro w9 hSw; (try dsimp only at hSw); go_simp; try with_reducible rfl); (try simp only [Act.put, List.setIfInBounds_toArray, List.set_cons_zero, List.set_cons_succ])
    refine WE_take 5 (v := ?_) rfl (by kernel_rfl) (fun _ _ _ h => h) (Or.inl ⟨by rfl, ?_⟩) (by assumption) ?_; rotate_left; (· intro w9 hSw; (try dsimp only at hSw); go_simp; try with_reducible rfl); (try simp only [Act.put, List.setIfInBounds_toArray, List.set_cons_zero, List.set_cons_succ])
    refine WE_step 6 rfl (by kernel_rfl) (fun K hK => ?_)
    go_simp
    (go_at_call 49; refine (rafter_any A1 A2 A3 A4 n1 c1 n2 c2 n3 c3 n4 c4 g2 F c2' k mn es ls sd (runJ Xf.rmeetV Xf.rapply es ls sd mn path j) _ (HE.out.later (hkwr.drew).toBelow) (HF.out.later (hkwr.drew).toBelow) (HS.out.later (hkwr.drew).toBelow) hn4 (vr.out.kept ((Kept.refl [] _).drew) (by simp)) hF1 hF2 hk3 hk2 HPK.out.1 HPK.out.2 HSD.out).mono ?_; rintro e w6 ⟨g6, c6, rfl, hv6, hg6, hc6, hb6⟩; have V6 := Lib.hid hv6; clear hv6)
    (try go_wp2_with fail)
    refine hK.out _ _ ?_ (fun hHeld => ?_)
    · (repeat' first | (with_reducible assumption) | (with_reducible exact SX0.init _) | (with_reducible exact SX0.refl _) | (with_reducible refine SX0.alloc ?_ _) | (with_reducible refine SX0.call ?_ (by assumption)) | (with_reducible refine SX0.set ?_ _ _ _ ?_) | (with_reducible refine SX0.drew ?_) | (simp; done) | omega | (simp; omega))
    clear hK K
    try simp only [Act.put, List.setIfInBounds_toArray, List.set_cons_zero, List.set_cons_succ]
    refine WE_last rfl (by kernel_rfl) (fun K hK => ?_)
    go_simp
    refine hK.out _ _ ?_
    clear hK K
    have hk6 : Kept [] wr w6 := hHeld.1
    have hwd : w.heap.size ≤ wr.heap.size := hkwr.size
    have hg6' : w.heap.size ≤ g6 := Nat.le_trans hwd hg6
    go_wp2_with fail
    exact ⟨⟨j + 1, g6, c6, by omega, rfl, by go_num, keptTrans hkr hk6, Lib.hid (hEq.out ▸ V6.out), hg6', hc6⟩, by simp [intOf]; omega⟩

set_option maxRecDepth 100000 in
set_option maxHeartbeats 4000000 in
theorem rAlong_any (A1 A2 A3 A4 A5 : Option Addr) (n1 c1 n2 c2 n3 c3 n4 c4 n5 c5 : Nat) (mn F : Int) (ns : List Sp.Nd) (es : List Sp.Ed) (ls : List (List Sp.Xp)) (sd : List Sp.Vs) (path : List Int) (w : World) (hg : Gr w A1 n1 A2 n2 ns es) (hf : Fls w A3 n3 ls) (hs : Vss w A4 n4 sd) (hp : Ints w A5 n5 path) (hn4 : n4 ≤ 9223372036854775806)
    (er : Int) (her : alErr ns es mn F ls sd path = er) :
    Calls Tryd.prog 10 #[.agg #[.slice A1 n1 c1, .slice A2 n2 c2, .int .i64 mn, .int .i64 F, .slice A3 n3 c3, .slice A4 n4 c4], .slice A5 n5 c5] w fun e w' =>
      ((er ≠ 0 ∧ e = .returned (.tuple #[.slice none 0 0, .int .i64 er])) ∨ (er = 0 ∧ ∃ g c, e = .returned (.tuple #[.slice (some ⟨g, 0, none⟩) F.toNat c, .int .i64 0]) ∧ Vals w' g F.toNat (runJ Xf.rmeetV Xf.rapply es ls sd mn path path.length) ∧ w.heap.size ≤ g ∧ F.toNat ≤ c)) ∧ Below w.heap.size w w' := by
  have HG := Lib.hid hg
  have HF := Lib.hid hf
  have HS := Lib.hid hs
  have HP := Lib.hid hp
  have HER := Lib.hid her
  clear hg hf hs hp her
  go_enter Tryd.func10, Tryd.ntmps10
  go_upto_region 1 with fail
  refine wp_named (fun W => ∃ b0, w.heap.size = b0 ∧ Blk W b0 [.slice A1 n1 c1, .slice A2 n2 c2, .int .i64 mn, .int .i64 F, .slice A3 n3 c3, .slice A4 n4 c4] ∧ Below w.heap.size w W) ⟨_, rfl, ?_, ?_⟩ ?_
  · exact Blk.new _ _ _ _ (by first | rfl | simp)
  · go_grown
  rintro W ⟨b0, e0, B0, hB⟩
  rw [e0]
  have G0 : w.heap.size ≤ b0 := by omega
  clear e0
  have ⟨L0, C0, F0⟩ := B0
  have hkW : Kept [] w W := (Kept.refl _ _).call hB
  obtain ⟨ie, hie⟩ : ∃ ie, Sp.ideErr ns es mn F ls sd = ie := ⟨_, rfl⟩
  have HIE := Lib.hid hie
  clear hie
  go_upto_region 2 with (go_at_call 16; refine (rideck_any A1 A2 A3 A4 n1 c1 n2 c2 n3 c3 n4 c4 mn F ns es ls sd _ (HG.out.nd.later hB) (HG.out.ed.later hB) (HF.out.later hB) (HS.out.later hB) (by omega)).mono ?_; rw [HIE.out]; rintro e w1 ⟨rfl, hb1⟩)
  have hk1 : Kept [] W w1 := (Kept.refl _ _).call hb1
  have hkw1 : Kept [] w w1 := keptTrans hkW hk1
  have ⟨L1, C1, F1⟩ := hk1.blk (by simp) B0
  clear C0 F0
  by_cases h0 : ie = 0
  case neg =>
    have h0' : (ie != 0) = true := by simpa using h0
    have hE : Hid (er = ie) := by show _ = _; rw [← HER.out]; unfold alErr; rw [HIE.out, if_pos h0]
    have h0n : er ≠ 0 := by rw [hE.out]; exact h0
    clear h0
    go_wp2_with fail
    go_ret2
    exact ⟨.inl ⟨h0n, by rw [hE.out]; rfl⟩, hkw1.toBelow⟩
  subst h0
  have hE : Hid (er = (Sp.followS ns es mn mn path).1) := by show _ = _; rw [← HER.out]; unfold alErr; rw [HIE.out, if_neg (by simp)]
  obtain ⟨fe, fa, fc, hfe⟩ : ∃ a b c, Sp.followS ns es mn mn path = (a, b, c) := ⟨_, _, _, rfl⟩
  have HFE := Lib.hid hfe
  clear hfe
  go_upto_region 5 with (go_at_call 17; refine (rcheck_any A1 A2 A5 n1 c1 n2 c2 n5 c5 mn mn ns es path _ (HG.out.kept hkw1) (HP.out.later hkw1.toBelow) fe fa fc HFE.out).mono ?_; rintro e w2 ⟨rfl, hb2⟩)
  have hk2 : Kept [] W w2 := hk1.call hb2
  have hkw2 : Kept [] w w2 := keptTrans hkW hk2
  have ⟨L2, C2, F2⟩ := hk2.blk (by simp) B0
  clear C1 F1
  have hE2 : Hid (er = fe) := by show _ = _; rw [hE.out, HFE.out]
  by_cases h0 : fe = 0
  case neg =>
    have h0' : (fe != 0) = true := by simpa using h0
    have h0n : er ≠ 0 := by rw [hE2.out]; exact h0
    clear h0
    go_wp2_with fail
    go_ret2
    exact ⟨.inl ⟨h0n, by rw [hE2.out]; rfl⟩, hkw2.toBelow⟩
  subst h0
  have hok := ide_parts HIE.out
  obtain ⟨Fn, rfl⟩ := Int.eq_ofNat_of_zero_le (show 0 ≤ F by have := hok.f1; omega)
  have HO := Lib.hid hok
  have HPI := Lib.hid (follow_in (path := path) (ns := ns) (es := es) (mn := mn) (fr := mn) (by rw [HFE.out]))
  clear hok
  go_wp2_with (go_at_call 24; refine (ralong_any A1 A2 A3 A4 A5 n1 c1 n2 c2 n3 c3 n4 c4 n5 c5 Fn mn ns es ls sd path _ (HG.out.kept hkw2).ed (HF.out.later hkw2.toBelow) (HS.out.later hkw2.toBelow) (HP.out.later hkw2.toBelow) hn4 HO.out HPI.out.1 HPI.out.2).mono ?_; rintro e w3 ⟨g, c, rfl, hv3, hg3, hc3, hb3⟩; have V3 := Lib.hid hv3; clear hv3)
  go_ret2
  exact ⟨.inr ⟨hE2.out, g, c, rfl, by simpa using V3.out, Nat.le_trans hkw2.size hg3, by simpa using hc3⟩, (hkw2.call hb3).toBelow⟩
end Go.Proofs.YtmjebjjhfoncfaaDoor
