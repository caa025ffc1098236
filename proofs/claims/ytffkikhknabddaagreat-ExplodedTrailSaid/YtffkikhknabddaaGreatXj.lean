/- The contracts of the reference's along and Along. (Printed by genXi.py.) -/
import Derived.Test.YtffkikhknabddaaGreatZx
import Derived.Test.YtffkikhknabddaaGreatXi
import Derived.Test.YtffkikhknabddaaGreatXk
import Derived.Test.YtffkikhknabddaaGreatKf
namespace Go.Proofs.YtffkikhknabddaaGreat
open Go.RowKit Go.Df Go.Df.If
attribute [local go_sem ↓] Go.wp_at_zero Go.wp_at_succ

set_option maxRecDepth 100000 in
set_option maxHeartbeats 8000000 in
theorem ralong_any (A1 A2 A3 A4 A5 : Option Addr) (n1 c1 n2 c2 n3 c3 n4 c4 n5 c5 : Nat) (mn F : Int) (ns : List Sp.Nd) (es : List Sp.Ed) (ls : List (List Pr)) (sd : List Sd) (path : List Int) (w : World) (he : Eds w A2 n2 es) (hf : Flw w A3 n3 ls) (hs : Sds w A4 n4 sd) (hp : Ints w A5 n5 path) (hn4 : n4 ≤ 1000)
    (ho : Ok ⟨ns, es, mn, F, ls, sd⟩) (hpl : path.length ≤ 4096) (hpi : ∀ j, j < path.length → 0 ≤ gi path j ∧ gi path j < es.length) :
    Calls Tryz.prog 37 #[.agg #[.slice A1 n1 c1, .slice A2 n2 c2, .int .i64 mn, .int .i64 F, .slice A3 n3 c3, .slice A4 n4 c4], .slice A5 n5 c5] w (GetF w (alongF ⟨ns, es, mn, F, ls, sd⟩ path)) := by
  have HE := Lib.hid he
  have HF := Lib.hid hf
  have HS := Lib.hid hs
  have HP := Lib.hid hp
  have HPN := Lib.hid hp.1
  have HPI := Lib.hid hpi
  have HO := Lib.hid ho
  have HL3 := Lib.hid ho.len
  have HSN : Hid ((seedF sd mn).length ≤ 1000) := Lib.hid (Nat.le_trans (seedF_len sd mn) (by rw [HS.out.1]; exact hn4))
  have HSR : Hid (∀ i j, i ≤ j → j < n4 → (gd sd i).n ≤ (gd sd j).n) := fun i j h1 h2 => sd_mono HO.out.sd h1 (by rw [HS.out.1]; exact h2)
  have hn5 : n5 ≤ 4096 := by have := hp.1; omega
  clear he hf hs hp hpi ho hpl
  go_enter Tryz.func37, Tryz.ntmps37
  go_upto_region 1 with fail
  refine wp_named (fun W => ∃ b0, w.heap.size = b0 ∧ Blk W b0 [.slice A1 n1 c1, .slice A2 n2 c2, .int .i64 mn, .int .i64 F, .slice A3 n3 c3, .slice A4 n4 c4] ∧ Below w.heap.size w W) ⟨_, rfl, ?_, ?_⟩ ?_
  · exact Blk.new _ _ _ _ (by first | rfl | simp)
  · go_grown
  rintro W ⟨b0, e0, B0, hB⟩
  rw [e0]
  have G0 : w.heap.size ≤ b0 := by omega
  clear e0
  have ⟨L0, C0, F0⟩ := B0
  have hkW : Kept [] w W := (Kept.refl _ _).call hB
  go_upto_region 2 with (first
    | (go_at_call 35; refine (rseedsat_any A1 _ _ A4 n1 c1 n2 c2 n3 c3 n4 c4 mn F mn sd _ (HS.out.later hB) (by omega)).mono ?_; rintro e w1 ⟨Q, k, cQ, rfl, hi1, hc1, hb1⟩; have HI1 := Lib.hid hi1; clear hi1)
    | (go_at_call 62; refine (rjoin_any Q none k cQ 0 0 (seedF sd mn) [] _ HI1.out (Ints.empty _ _) (by have := HI1.out.1; have := HSN.out; omega) (by omega)).mono ?_; rintro e w2 ⟨Q2, k2, cQ2, rfl, hi2, hc2, hb2⟩; have HI2 := Lib.hid hi2; clear hi2))
  have hk1 : Kept [] W w2 := ((Kept.refl [] W).call hb1).call hb2
  have HI0 : Hid (Ints w2 Q2 k2 (alongF ⟨ns, es, mn, F, ls, sd⟩ (path.take 0))) := HI2
  have hc0 := hc2
  have B01 := hk1.blk (by simp) B0
  have ⟨L01, C01, F01⟩ := B01
  clear C0 F0
  go_wp2_with fail
  go_loopw [5, 6] (fun s5 i wr => ∃ (j : Nat) (Q : Option Addr) (cQ m : Nat), j ≤ n5 ∧ s5 = .slice Q m cQ ∧ i = .int .i64 j ∧ Kept [] W wr ∧ m ≤ cQ ∧ Hid (Ints wr Q m (alongF ⟨ns, es, mn, F, ls, sd⟩ (path.take j)))) (fun _ i _ => n5 - (intOf i).toNat)
  case atStart => exact ⟨0, Q2, cQ2, k2, Nat.zero_le _, rfl, rfl, hk1, hc0, HI0⟩
  case round =>
    clear C01 F01 HI0
    obtain ⟨j, Q, cQ, m, hj, rfl, rfl, hkr, hmc, vr⟩ := hrel
    have hkwr : Kept [] w wr := keptTrans hkW hkr
    have ⟨LR, CR, FR⟩ := hkr.blk (by simp) B0
    by_cases hlt : j < n5
    case neg =>
      obtain rfl : j = n5 := by omega
      have e9 : path.take j = path := List.take_of_length_le (by rw [HPN.out]; exact Nat.le_refl _)
      rw [e9] at vr
      go_wp2_with fail
      go_ret
      exact ⟨Q, m, cQ, rfl, vr.out, hmc, hkwr.toBelow⟩
    obtain ⟨b5, o5, rfl, hl5, hc5⟩ := HP.out.2 (by omega)
    have hpj := HPI.out j (by rw [HPN.out]; exact hlt)
    obtain ⟨k, hk⟩ := Int.eq_ofNat_of_zero_le hpj.1
    have r5 : wr.cell? ⟨b5, o5 + j, none⟩ = some (.int .i64 k) := by rw [← hk]; exact (hkwr.cell b5 _ hl5 (by simp)).trans (hc5 j hlt)
    have hl5r : b5 < wr.heap.size := Nat.lt_of_lt_of_le hl5 hkwr.size
    have hk2 : k < n2 := by have := HE.out.1; omega
    have hk3 : k < n3 := by have := HE.out.1; have := HF.out.1; have h9 : ls.length = es.length := HL3.out; omega
    have HK := Lib.hid hk
    have hj1 : (j : Int) < (n5 : Int) := by omega
    have hk2' : (k : Int) < (n2 : Int) := by omega
    have hk3' : (k : Int) < (n3 : Int) := by omega
    clear hk hpj hc5
    obtain ⟨b3, o3, rfl, hl3, hc3⟩ := HF.out.2 (by omega)
    obtain ⟨Ai, ni, ci, hcell3, hnc3, hprs⟩ := hc3 k hk3
    have r3 := (hkwr.cell b3 _ hl3 (by simp)).trans hcell3
    have hl3r : b3 < wr.heap.size := Nat.lt_of_lt_of_le hl3 hkwr.size
    have HPR := Lib.hid hprs
    have hflk := HO.out.fl k (by have h9 : ls.length = n3 := HF.out.1; show k < ls.length; omega)
    have hni : ni ≤ 8192 := by have h9 := hprs.1; have h8 := hflk.1; dsimp only at h8; omega
    obtain ⟨b2, o2, rfl, hl2, hc2⟩ := HE.out.2 (by omega)
    obtain ⟨nd, hnd⟩ : ∃ nd, (ge es k).b = nd := ⟨_, rfl⟩
    have r2 := (hkwr.cell b2 _ hl2 (by simp)).trans (hc2 k hk2).2.1
    rw [hnd] at r2
    have hl2r : b2 < wr.heap.size := Nat.lt_of_lt_of_le hl2 hkwr.size
    have HSTEP : Hid (alongF ⟨ns, es, mn, F, ls, sd⟩ (path.take (j + 1)) = joinF (applyF (gf ls k) (alongF ⟨ns, es, mn, F, ls, sd⟩ (path.take j))) (seedF sd nd)) := Lib.hid (by
      have hjl : j < path.length := by rw [HPN.out]; exact hlt
      have e1 : path.take (j + 1) = path.take j ++ [gi path j] := by rw [List.take_add_one, List.getElem?_eq_getElem hjl, gi_lt hjl]; rfl
      rw [e1, alongF_snoc]
      unfold stepF
      rw [HK.out, ← hnd]
      rfl)
    have HAL : Hid ((applyF (gf ls k) (alongF ⟨ns, es, mn, F, ls, sd⟩ (path.take j))).length ≤ 8192) := Lib.hid (Nat.le_trans (applyF_len _ _) hflk.1)
    have HSN2 : Hid ((seedF sd nd).length ≤ 1000) := Lib.hid (Nat.le_trans (seedF_len sd nd) (by rw [HS.out.1]; exact hn4))
    have hm9 : m ≤ 10000 := by
      have h9 := vr.out.1
      have h8 := alongF_len ⟨ns, es, mn, F, ls, sd⟩ 8192 1000 (fun i => by
        by_cases hi : i < ls.length
        · exact (HO.out.fl i hi).1
        · simp [gf, hi]) (by have := HS.out.1; show sd.length ≤ 1000; omega) (path.take j) (joinF (seedF sd mn) []) (by have := joinF_len (seedF sd mn) []; have := HSN.out; simp at *; omega)
      change (alongF ⟨ns, es, mn, F, ls, sd⟩ (path.take j)).length ≤ 8192 + 1000 at h8
      omega
    have HWF : Hid (∀ x ∈ alongF ⟨ns, es, mn, F, ls, sd⟩ (path.take j), (Lit.int .i64 x).wf = true) := Lib.hid (fun x hx => by
      have h9 := alongF_rng HO.out (path := path.take j) (fun i hi => by
        rw [List.length_take] at hi
        have h8 := HPI.out i (by omega)
        have e8 : gi (path.take j) i = gi path i := by rw [gi_lt (by rw [List.length_take]; omega), gi_lt (by omega), List.getElem_take]
        rw [e8]; exact h8) x hx
      have h7 := HO.out.f2
      dsimp only at h9 h7
      exact WalkArith.wf_i64 (by omega))
    have HWP : Hid (∀ q ∈ gf ls k, (Lit.int .i64 q.i).wf = true) := Lib.hid (fun q hq => by
      have h9 := HO.out.pair (k := k) (by have h9 : ls.length = n3 := HF.out.1; show k < ls.length; omega) hq
      have h7 := HO.out.f2
      dsimp only at h9 h7
      exact WalkArith.wf_i64 (by omega))
    clear hprs hcell3 hc3 hc2 hnd hflk
    go_upto_region 5 with fail
    refine wp_region_E 23 (fun w' => SX0 wr w') (by kernel_rfl) (by (repeat' first | (with_reducible assumption) | (with_reducible exact SX0.init _) | (with_reducible exact SX0.refl _) | (with_reducible refine SX0.alloc ?_ _) | (with_reducible refine SX0.call ?_ (by assumption)) | (with_reducible refine SX0.set ?_ _ _ _ ?_) | (with_reducible refine SX0.drew ?_) | (simp; done) | omega | (simp; omega))) (fun hHeld => ?_)
    refine WE_take 0 (v := ?_) rfl (by kernel_rfl) (fun _ _ _ h => h) (Or.inl ⟨by rfl, ?_⟩) (by assumption) ?_; rotate_left; (· intro w9 hSw; (try dsimp only at hSw); go_simp; try with_reducible rfl); (try simp only [Act.put, List.setIfInBounds_toArray, List.set_cons_zero, List.set_cons_succ])
    refine WE_take 1 (v := ?_) rfl (by kernel_rfl) (fun _ _ _ h => h) (Or.inl ⟨by rfl, ?_⟩) (by assumption) ?_; rotate_left; (· intro w9 hSw; (try dsimp only at hSw); go_simp; try with_reducible rfl); (try simp only [Act.put, List.setIfInBounds_toArray, List.set_cons_zero, List.set_cons_succ])
    refine WE_take 2 (v := ?_) rfl (by kernel_rfl) (fun _ _ _ h => h) (Or.inl ⟨by rfl, ?_⟩) (by assumption) ?_; rotate_left; (· intro w9 hSw; (try dsimp only at hSw); go_simp; try with_reducible rfl); (try simp only [Act.put, List.setIfInBounds_toArray, List.set_cons_zero, List.set_cons_succ])
    refine WE_take 3 (v := ?_) rfl (by kernel_rfl) (fun _ _ _ h => h) (Or.inl ⟨by rfl, ?_⟩) (by assumption) ?_; rotate_left; (· intro w9 hSw; (try dsimp only at hSw); go_simp; try with_reducible rfl); (try simp only [Act.put, List.setIfInBounds_toArray, List.set_cons_zero, List.set_cons_succ])
    refine WE_take 4 (v := ?_) rfl (by kernel_rfl) (fun _ _ _ h => h) (Or.inl ⟨by rfl, ?_⟩) (by assumption) ?_; rotate_left; (· intro w9 hSw; (try dsimp only at hSw); go_simp; try with_reducible rfl); (try simp only [Act.put, List.setIfInBounds_toArray, List.set_cons_zero, List.set_cons_succ])
    refine WE_take 5 (v := ?_) rfl (by kernel_rfl) (fun _ _ _ h => h) (Or.inl ⟨by rfl, ?_⟩) (by assumption) ?_; rotate_left; (· intro w9 hSw; (try dsimp only at hSw); go_simp; try with_reducible rfl); (try simp only [Act.put, List.setIfInBounds_toArray, List.set_cons_zero, List.set_cons_succ])
    refine WE_take 6 (v := ?_) rfl (by kernel_rfl) (fun _ _ _ h => h) (Or.inl ⟨by rfl, ?_⟩) (by assumption) ?_; rotate_left; (· intro w9 hSw; (try dsimp only at hSw); go_simp; try with_reducible rfl); (try simp only [Act.put, List.setIfInBounds_toArray, List.set_cons_zero, List.set_cons_succ])
    refine WE_take 7 (v := ?_) rfl (by kernel_rfl) (fun _ _ _ h => h) (Or.inl ⟨by rfl, ?_⟩) (by assumption) ?_; rotate_left; (· intro w9 hSw; (try dsimp only at hSw); go_simp; try with_reducible rfl); (try simp only [Act.put, List.setIfInBounds_toArray, List.set_cons_zero, List.set_cons_succ])
    refine WE_take 8 (v := ?_) rfl (by kernel_rfl) (fun _ _ _ h => h) (Or.inl ⟨by rfl, ?_⟩) (by assumption) ?_; rotate_left; (· intro w9 hSw; (try dsimp only at hSw); go_simp; try with_reducible rfl); (try simp only [Act.put, List.setIfInBounds_toArray, List.set_cons_zero, List.set_cons_succ])
    refine WE_take 10 (v := ?_) rfl (by kernel_rfl) (fun _ _ _ h => h) (Or.inl ⟨by rfl, ?_⟩) (by assumption) ?_; rotate_left; (· intro w9 hSw; (try dsimp only at hSw); go_simp; try with_reducible rfl); (try simp only [Act.put, List.setIfInBounds_toArray, List.set_cons_zero, List.set_cons_succ])
    refine WE_take 11 (v := ?_) rfl (by kernel_rfl) (fun _ _ _ h => h) (Or.inl ⟨by rfl, ?_⟩) (by assumption) ?_; rotate_left; (· intro w9 hSw; (try dsimp only at hSw); go_simp; try with_reducible rfl); (try simp only [Act.put, List.setIfInBounds_toArray, List.set_cons_zero, List.set_cons_succ])
    refine WE_take 12 (v := ?_) rfl (by kernel_rfl) (fun _ _ _ h => h) (Or.inl ⟨by rfl, ?_⟩) (by assumption) ?_; rotate_left; (· intro w9 hSw; (try dsimp only at hSw); go_simp; try with_reducible rfl); (try simp only [Act.put, List.setIfInBounds_toArray, List.set_cons_zero, List.set_cons_succ])
    refine WE_take 13 (v := ?_) rfl (by kernel_rfl) (fun _ _ _ h => h) (Or.inl ⟨by rfl, ?_⟩) (by assumption) ?_; rotate_left; (· intro w9 hSw; (try dsimp only at hSw); go_simp; try with_reducible rfl); (try simp only [Act.put, List.setIfInBounds_toArray, List.set_cons_zero, List.set_cons_succ])
    refine WE_take 14 (v := ?_) rfl (by kernel_rfl) (fun _ _ _ h => h) (Or.inl ⟨by rfl, ?_⟩) (by assumption) ?_; rotate_left; (· intro w9 hSw; (try dsimp only at hSw); go_simp; try with_reducible rfl); (try simp only [Act.put, List.setIfInBounds_toArray, List.set_cons_zero, List.set_cons_succ])
    refine WE_take 15 (v := ?_) rfl (by kernel_rfl) (fun _ _ _ h => h) (Or.inl ⟨by rfl, ?_⟩) (by assumption) ?_; rotate_left; (· intro w9 hSw; (try dsimp only at hSw); go_simp; try with_reducible rfl); (try simp only [Act.put, List.setIfInBounds_toArray, List.set_cons_zero, List.set_cons_succ])
    refine WE_take 16 (v := ?_) rfl (by kernel_rfl) (fun _ _ _ h => h) (Or.inl ⟨by rfl, ?_⟩) (by assumption) ?_; rotate_left; (· intro w9 hSw; (try dsimp only at hSw); go_simp; try with_reducible rfl); (try simp only [Act.put, List.setIfInBounds_toArray, List.set_cons_zero, List.set_cons_succ])
    refine WE_take 17 (v := ?_) rfl (by kernel_rfl) (fun _ _ _ h => h) (Or.inl ⟨by rfl, ?_⟩) (by assumption) ?_; rotate_left; (· intro w9 hSw; (try dsimp only at hSw); go_simp; try with_reducible rfl); (try simp only [Act.put, List.setIfInBounds_toArray, List.set_cons_zero, List.set_cons_succ])
    refine WE_take 18 (v := ?_) rfl (by kernel_rfl) (fun _ _ _ h => h) (Or.inl ⟨by rfl, ?_⟩) (by assumption) ?_; rotate_left; (· intro w9 hSw; (try dsimp only at hSw); go_simp; try with_reducible rfl); (try simp only [Act.put, List.setIfInBounds_toArray, List.set_cons_zero, List.set_cons_succ])
    refine WE_take 19 (v := ?_) rfl (by kernel_rfl) (fun _ _ _ h => h) (Or.inl ⟨by rfl, ?_⟩) (by assumption) ?_; rotate_left; (· intro w9 hSw; (try dsimp only at hSw); go_simp; try with_reducible rfl); (try simp only [Act.put, List.setIfInBounds_toArray, List.set_cons_zero, List.set_cons_succ])
    refine WE_take 20 (v := ?_) rfl (by kernel_rfl) (fun _ _ _ h => h) (Or.inl ⟨by rfl, ?_⟩) (by assumption) ?_; rotate_left; (· intro w9 hSw; (try dsimp only at hSw); go_simp; try with_reducible rfl); (try simp only [Act.put, List.setIfInBounds_toArray, List.set_cons_zero, List.set_cons_succ])
    refine WE_step 9 rfl (by kernel_rfl) (fun K hK => ?_)
    go_simp
    (first | (go_at_call 63; refine (rapply_any Ai Q ni ci m cQ (gf ls k) (alongF ⟨ns, es, mn, F, ls, sd⟩ (path.take j)) _ (HPR.out.later (hkwr.drew).toBelow) (vr.out.kept ((Kept.refl [] _).drew)) (by omega) (by omega)).mono ?_; rintro e w6 ⟨A6, n6, c6, rfl, hi6, hc6, hb6⟩; have HI6 := Lib.hid hi6; clear hi6) | (go_at_call 35; refine (rseedsat_any A1 _ _ A4 n1 c1 n2 c2 n3 c3 n4 c4 mn F nd sd _ (HS.out.later (keptTrans hkwr hHeld.1).toBelow) (by omega)).mono ?_; rintro e w7 ⟨A7, n7, c7, rfl, hi7, hc7, hb7⟩; have HI7 := Lib.hid hi7; clear hi7) | (go_at_call 62; refine (rjoin_any A6 A7 n6 c6 n7 c7 _ _ _ (HI6.out.later hb7) HI7.out (by have := HI6.out.1; have := HAL.out; omega) (by have := HI7.out.1; have := HSN2.out; omega)).mono ?_; rintro e w8 ⟨A8, n8, c8, rfl, hi8, hc8, hb8⟩; have HI8 := Lib.hid hi8; clear hi8))
    (try go_wp2_with fail)
    refine hK.out _ _ ?_ (fun hHeld => ?_)
    · (repeat' first | (with_reducible assumption) | (with_reducible exact SX0.init _) | (with_reducible exact SX0.refl _) | (with_reducible refine SX0.alloc ?_ _) | (with_reducible refine SX0.call ?_ (by assumption)) | (with_reducible refine SX0.set ?_ _ _ _ ?_) | (with_reducible refine SX0.drew ?_) | (simp; done) | omega | (simp; omega))
    clear hK K
    try simp only [Act.put, List.setIfInBounds_toArray, List.set_cons_zero, List.set_cons_succ]
    refine WE_step 21 rfl (by kernel_rfl) (fun K hK => ?_)
    go_simp
    (first | (go_at_call 63; refine (rapply_any Ai Q ni ci m cQ (gf ls k) (alongF ⟨ns, es, mn, F, ls, sd⟩ (path.take j)) _ (HPR.out.later (hkwr.drew).toBelow) (vr.out.kept ((Kept.refl [] _).drew)) (by omega) (by omega)).mono ?_; rintro e w6 ⟨A6, n6, c6, rfl, hi6, hc6, hb6⟩; have HI6 := Lib.hid hi6; clear hi6) | (go_at_call 35; refine (rseedsat_any A1 _ _ A4 n1 c1 n2 c2 n3 c3 n4 c4 mn F nd sd _ (HS.out.later (keptTrans hkwr hHeld.1).toBelow) (by omega)).mono ?_; rintro e w7 ⟨A7, n7, c7, rfl, hi7, hc7, hb7⟩; have HI7 := Lib.hid hi7; clear hi7) | (go_at_call 62; refine (rjoin_any A6 A7 n6 c6 n7 c7 _ _ _ (HI6.out.later hb7) HI7.out (by have := HI6.out.1; have := HAL.out; omega) (by have := HI7.out.1; have := HSN2.out; omega)).mono ?_; rintro e w8 ⟨A8, n8, c8, rfl, hi8, hc8, hb8⟩; have HI8 := Lib.hid hi8; clear hi8))
    (try go_wp2_with fail)
    refine hK.out _ _ ?_ (fun hHeld => ?_)
    · (repeat' first | (with_reducible assumption) | (with_reducible exact SX0.init _) | (with_reducible exact SX0.refl _) | (with_reducible refine SX0.alloc ?_ _) | (with_reducible refine SX0.call ?_ (by assumption)) | (with_reducible refine SX0.set ?_ _ _ _ ?_) | (with_reducible refine SX0.drew ?_) | (simp; done) | omega | (simp; omega))
    clear hK K
    try simp only [Act.put, List.setIfInBounds_toArray, List.set_cons_zero, List.set_cons_succ]
    refine WE_step 22 rfl (by kernel_rfl) (fun K hK => ?_)
    go_simp
    (first | (go_at_call 63; refine (rapply_any Ai Q ni ci m cQ (gf ls k) (alongF ⟨ns, es, mn, F, ls, sd⟩ (path.take j)) _ (HPR.out.later (hkwr.drew).toBelow) (vr.out.kept ((Kept.refl [] _).drew)) (by omega) (by omega)).mono ?_; rintro e w6 ⟨A6, n6, c6, rfl, hi6, hc6, hb6⟩; have HI6 := Lib.hid hi6; clear hi6) | (go_at_call 35; refine (rseedsat_any A1 _ _ A4 n1 c1 n2 c2 n3 c3 n4 c4 mn F nd sd _ (HS.out.later (keptTrans hkwr hHeld.1).toBelow) (by omega)).mono ?_; rintro e w7 ⟨A7, n7, c7, rfl, hi7, hc7, hb7⟩; have HI7 := Lib.hid hi7; clear hi7) | (go_at_call 62; refine (rjoin_any A6 A7 n6 c6 n7 c7 _ _ _ (HI6.out.later hb7) HI7.out (by have := HI6.out.1; have := HAL.out; omega) (by have := HI7.out.1; have := HSN2.out; omega)).mono ?_; rintro e w8 ⟨A8, n8, c8, rfl, hi8, hc8, hb8⟩; have HI8 := Lib.hid hi8; clear hi8))
    (try go_wp2_with fail)
    refine hK.out _ _ ?_ (fun hHeld => ?_)
    · (repeat' first | (with_reducible assumption) | (with_reducible exact SX0.init _) | (with_reducible exact SX0.refl _) | (with_reducible refine SX0.alloc ?_ _) | (with_reducible refine SX0.call ?_ (by assumption)) | (with_reducible refine SX0.set ?_ _ _ _ ?_) | (with_reducible refine SX0.drew ?_) | (simp; done) | omega | (simp; omega))
    clear hK K
    try simp only [Act.put, List.setIfInBounds_toArray, List.set_cons_zero, List.set_cons_succ]
    refine WE_last rfl (by kernel_rfl) (fun K hK => ?_)
    go_simp
    refine hK.out _ _ ?_
    clear hK K
    have hk8 : Kept [] wr w8 := hHeld.1
    go_wp2_with fail
    exact ⟨⟨j + 1, A8, c8, n8, by omega, rfl, by go_num, keptTrans hkr hk8, hc8, Lib.hid (by rw [HSTEP.out]; exact HI8.out)⟩, by simp [intOf]; omega⟩

set_option maxRecDepth 100000 in
set_option maxHeartbeats 4000000 in
theorem rAlong_any (A1 A2 A3 A4 A5 : Option Addr) (n1 c1 n2 c2 n3 c3 n4 c4 n5 c5 : Nat) (mn F : Int) (ns : List Sp.Nd) (es : List Sp.Ed) (ls : List (List Pr)) (sd : List Sd) (path : List Int) (w : World) (hg : Gr w A1 n1 A2 n2 ns es) (hf : Flw w A3 n3 ls) (hs : Sds w A4 n4 sd) (hp : Ints w A5 n5 path) (hn4 : n4 ≤ 1000)
    (er : Int) (her : alErr ⟨ns, es, mn, F, ls, sd⟩ path = er) :
    Calls Tryz.prog 17 #[.agg #[.slice A1 n1 c1, .slice A2 n2 c2, .int .i64 mn, .int .i64 F, .slice A3 n3 c3, .slice A4 n4 c4], .slice A5 n5 c5] w fun e w' =>
      ((er ≠ 0 ∧ e = .returned (.tuple #[.slice none 0 0, .int .i64 er])) ∨ (er = 0 ∧ ∃ Q m c, e = .returned (.tuple #[.slice Q m c, .int .i64 0]) ∧ Ints w' Q m (alongF ⟨ns, es, mn, F, ls, sd⟩ path) ∧ m ≤ c)) ∧ Below w.heap.size w w' := by
  have HG := Lib.hid hg
  have HF := Lib.hid hf
  have HS := Lib.hid hs
  have HP := Lib.hid hp
  have HER := Lib.hid her
  clear hg hf hs hp her
  go_enter Tryz.func17, Tryz.ntmps17
  go_upto_region 1 with fail
  refine wp_named (fun W => ∃ b0, w.heap.size = b0 ∧ Blk W b0 [.slice A1 n1 c1, .slice A2 n2 c2, .int .i64 mn, .int .i64 F, .slice A3 n3 c3, .slice A4 n4 c4] ∧ Below w.heap.size w W) ⟨_, rfl, ?_, ?_⟩ ?_
  · exact Blk.new _ _ _ _ (by first | rfl | simp)
  · go_grown
  rintro W ⟨b0, e0, B0, hB⟩
  rw [e0]
  have G0 : w.heap.size ≤ b0 := by omega
  clear e0
  have ⟨L0, C0, F0⟩ := B0
  have hkW : Kept [] w W := (Kept.refl _ _).call hB
  obtain ⟨ie, hie⟩ : ∃ ie, pbErr ⟨ns, es, mn, F, ls, sd⟩ = ie := ⟨_, rfl⟩
  have HIE := Lib.hid hie
  clear hie
  go_upto_region 2 with (go_at_call 23; refine (rifdsck_any A1 A2 A3 A4 n1 c1 n2 c2 n3 c3 n4 c4 mn F ns es ls sd _ (HG.out.nd.later hB) (HG.out.ed.later hB) (HF.out.later hB) (HS.out.later hB) (by omega) HG.out.wn HG.out.we).mono ?_; rw [HIE.out]; rintro e w1 ⟨rfl, hb1⟩)
  have hk1 : Kept [] W w1 := (Kept.refl _ _).call hb1
  have hkw1 : Kept [] w w1 := keptTrans hkW hk1
  have ⟨L1, C1, F1⟩ := hk1.blk (by simp) B0
  clear C0 F0
  by_cases h0 : ie = 0
  case neg =>
    have h0' : (ie != 0) = true := by simpa using h0
    have hE : Hid (er = ie) := by show _ = _; rw [← HER.out]; unfold alErr; rw [HIE.out, if_pos h0]
    have h0n : er ≠ 0 := by rw [hE.out]; exact h0
    clear h0
    go_wp2_with fail
    go_ret2
    exact ⟨.inl ⟨h0n, by rw [hE.out]; rfl⟩, hkw1.toBelow⟩
  subst h0
  have hE : Hid (er = (Sp.followS ns es mn mn path).1) := by show _ = _; rw [← HER.out]; unfold alErr; rw [HIE.out, if_neg (by simp)]
  obtain ⟨fe, fa, fc, hfe⟩ : ∃ a b c, Sp.followS ns es mn mn path = (a, b, c) := ⟨_, _, _, rfl⟩
  have HFE := Lib.hid hfe
  clear hfe
  go_upto_region 5 with (go_at_call 6; refine (rcheck_any A1 A2 A5 n1 c1 n2 c2 n5 c5 mn mn ns es path _ (HG.out.kept hkw1) (HP.out.later hkw1.toBelow) fe fa fc HFE.out).mono ?_; rintro e w2 ⟨rfl, hb2⟩)
  have hk2 : Kept [] W w2 := hk1.call hb2
  have hkw2 : Kept [] w w2 := keptTrans hkW hk2
  have ⟨L2, C2, F2⟩ := hk2.blk (by simp) B0
  clear C1 F1
  have hE2 : Hid (er = fe) := by show _ = _; rw [hE.out, HFE.out]
  by_cases h0 : fe = 0
  case neg =>
    have h0' : (fe != 0) = true := by simpa using h0
    have h0n : er ≠ 0 := by rw [hE2.out]; exact h0
    clear h0
    go_wp2_with fail
    go_ret2
    exact ⟨.inl ⟨h0n, by rw [hE2.out]; rfl⟩, hkw2.toBelow⟩
  subst h0
  have HO := Lib.hid (ok_of HIE.out)
  have HPI := Lib.hid (follow_in (path := path) (ns := ns) (es := es) (mn := mn) (fr := mn) (by rw [HFE.out]))
  go_wp2_with (go_at_call 37; refine (ralong_any A1 A2 A3 A4 A5 n1 c1 n2 c2 n3 c3 n4 c4 n5 c5 mn F ns es ls sd path _ (HG.out.kept hkw2).ed (HF.out.later hkw2.toBelow) (HS.out.later hkw2.toBelow) (HP.out.later hkw2.toBelow) hn4 HO.out HPI.out.1 HPI.out.2).mono ?_; rintro e w3 ⟨Q, m, c, rfl, hi3, hmc3, hb3⟩; have HI3 := Lib.hid hi3; clear hi3)
  go_ret2
  exact ⟨.inr ⟨hE2.out, Q, m, c, rfl, HI3.out, hmc3⟩, (hkw2.call hb3).toBelow⟩
end Go.Proofs.YtffkikhknabddaaGreat
