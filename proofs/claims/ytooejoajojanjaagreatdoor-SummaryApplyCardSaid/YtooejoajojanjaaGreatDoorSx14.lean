/- The walks of the laws SummaryCheck, SummaryText, SummaryParse and SummaryApply. -/
import Derived.Test.YtooejoajojanjaaGreatDoorSx13
namespace Go.Df.If
open Go.RowKit Go.Df Sp
theorem parR_err : ∀ (k n : Nat) (M : List Su) (s : Bs), (parR k n M s).2.2 ≠ 0 → (parR k n M s).1 = []
  | 0, _, _, _, h => absurd rfl h
  | k + 1, n, M, s, h => by
    rw [parR] at h ⊢
    split
    · rename_i h0
      rw [if_pos h0] at h
      exact absurd rfl h
    · rename_i h0
      rw [if_neg h0] at h
      cases hc : cutN s with
      | none => rfl
      | some p =>
        obtain ⟨a, r⟩ := p
        rw [hc] at h
        dsimp only at h ⊢
        split
        · rfl
        · rename_i h1
          rw [if_neg h1] at h
          exact parR_err k _ _ _ h
/-- What is valid is short. -/
theorem sum_len {L : List Su} (h : sumErr 1024 L = 0) : L.length ≤ 256 ∧ ∀ i, i < L.length → (gS L i).x.length ≤ 9223372036854775807 ∧ (gS L i).y.length ≤ 9223372036854775807 := by
  obtain ⟨-, h2, h3⟩ := sum_ok.1 h
  refine ⟨h2, fun i hi => ?_⟩
  have h9 := h3 i hi
  have h8 := (ls_ok.1 h9.2.1).1
  have h7 := (ls_ok.1 h9.2.2).1
  omega
theorem par_len (s : Bs) : (parS s).1.length ≤ 256 ∧ ∀ i, i < (parS s).1.length → (gS (parS s).1 i).x.length ≤ 9223372036854775807 ∧ (gS (parS s).1 i).y.length ≤ 9223372036854775807 := by
  unfold parS
  split
  · exact ⟨by simp, fun i hi => absurd hi (by simp)⟩
  · by_cases he : (parR (s.length + 1) 1 [] s).2.2 = 0
    · exact sum_len (par_back (L := (parR (s.length + 1) 1 [] s).1) (m := (parR (s.length + 1) 1 [] s).2.1) _ 1 [] s (by omega) sum_nil (Prod.ext rfl (Prod.ext rfl he))).2.1
    · rw [parR_err _ _ _ _ he]
      exact ⟨by simp, fun i hi => absurd hi (by simp)⟩
theorem tex_len (L : List Su) : (texS L).1.length ≤ 65536 := by
  unfold texS
  split
  · simp
  · split
    · simp
    · rename_i h; simpa using h
theorem tex_ok {L : List Su} (h : (texS L).2 = 0) : sumErr 1024 L = 0 := by
  unfold texS at h
  split at h
  · rename_i h0; exact absurd h h0
  · rename_i h0; simpa using h0
end Go.Df.If
namespace Go.Proofs.YtooejoajojanjaaGreatDoor
open Go.RowKit Go.Df Go.Df.If
attribute [local go_sem ↓] Go.wp_at_zero Go.wp_at_succ
set_option maxRecDepth 100000 in
set_option maxHeartbeats 4000000 in
theorem sumCheck_any (A : Option Addr) (n c : Nat) (L : List Su) (F : Int) (w : World) (hS : SmW w A n L) (hn : n ≤ 9223372036854775807) (hE : Env w) :
    Calls Tryz.prog 3 #[.slice A n c, .int .i64 F] w fun e w' => e = .returned (.bool true) ∧ Below w.heap.size w w' := by
  have HS := Lib.hid hS
  have HE := Lib.hid hE
  have HSH := Lib.hid (short_any A n c L w hS hn)
  obtain ⟨pe, hpe⟩ : ∃ pe, sumErr F L = pe := ⟨_, rfl⟩
  have HPE := Lib.hid hpe
  clear hS hE hpe
  go_enter Tryz.func3, Tryz.ntmps3
  go_wp2_with fail
  refine HSH.out.mono ?_
  rintro e w1 ⟨⟨s, rfl⟩, hb1⟩
  have HK1 : Hid (Kept [] w w1) := Lib.hid ((Kept.refl [] w).call hb1)
  cases s with
  | false =>
    go_wp2_with fail
    go_ret
    exact ⟨rfl, hb1⟩
  | true =>
    have HC1 := Lib.hid (fun (w2 : World) (hk : Kept [] w w2) => sumck_any A n c L F w2 (HS.out.later hk.toBelow) hn)
    have HC2 := Lib.hid (fun (w2 : World) (hk : Kept [] w w2) => rsumck_any A n c L F w2 (HS.out.later hk.toBelow))
    rw [HPE.out] at HC1 HC2
    clear hb1
    go_wp2_with (first | (go_at_call 11; refine (HC1.out _ HK1.out).mono ?_; rintro e w2 ⟨rfl, hb2⟩; have HK2 : Hid (Kept [] w w2) := Lib.hid (HK1.out.call hb2)) | (go_at_call 12; refine (HC2.out _ HK2.out).mono ?_; rintro e w3 ⟨rfl, hb3⟩; have HK3 : Hid (Kept [] w w3) := Lib.hid (HK2.out.call hb3)) | (go_at_call 13; refine (knows35_any _ (HE.out.later HK3.out.toBelow)).mono ?_; rintro e w4 ⟨rfl, hb4⟩))
    go_ret
    exact ⟨rfl, (HK3.out.call hb4).toBelow⟩
set_option maxRecDepth 100000 in
set_option maxHeartbeats 4000000 in
theorem sumParse_any (s : Bs) (w : World) (hs : s.length ≤ 9223372036854775807) (hE : Env w) :
    Calls Tryz.prog 6 #[.string ⟨s.toArray⟩] w fun e w' => e = .returned (.bool true) ∧ Below w.heap.size w w' := by
  have HE := Lib.hid hE
  obtain ⟨ln, hln⟩ : ∃ ln, s.length = ln := ⟨_, rfl⟩
  have HLN := Lib.hid hln
  by_cases hbig : 1500 < ln
  · have g1 : decide ((1500 : Int) < (ln : Int)) = true := by simp; omega
    clear hbig hE
    go_enter Tryz.func6, Tryz.ntmps6
    go_wp2_with fail
    go_ret
    exact ⟨rfl, Below.refl _ _⟩
  have g1 : decide ((1500 : Int) < (ln : Int)) = false := by simp; omega
  have HP1 := Lib.hid (pParse_any s w hs hE.mx hE.et)
  have HP2 := Lib.hid (fun w2 => rParse_any s w2 hs)
  have HLL := Lib.hid (par_len s)
  have HTP := Lib.hid (fun (L : List Su) (m : Int) (h : parS s = (L, m, 0)) => tex_par h)
  obtain ⟨r, hr⟩ : ∃ r, parS s = r := ⟨_, rfl⟩
  rw [hr] at HP1 HP2 HLL HTP
  obtain ⟨L, pk, pe⟩ := r
  clear hbig hE hr hs
  go_enter Tryz.func6, Tryz.ntmps6
  go_upto_region 5 with (first | (go_at_call 19; refine HP1.out.mono ?_; rintro e w1 ⟨A1, n1, c1, rfl, hS1, hb1⟩) | (go_at_call 21; refine (HP2.out _).mono ?_; rintro e w2 ⟨A2, n2, c2, rfl, hS2, hb2⟩))
  have HK2 : Hid (Kept [] w w2) := Lib.hid (((Kept.refl [] w).call hb1).call hb2)
  have HS1 := Lib.hid (hS1.later hb2)
  have HS2 := Lib.hid hS2
  obtain rfl : n1 = n2 := hS1.len.symm.trans hS2.len
  have HN := Lib.hid hS1.len
  have HSA := Lib.hid (same35_any A1 A2 n1 c1 c2 L w2 HS1.out HS2.out (by have h1 := HLL.out.1; have h2 := HN.out; omega) (fun i hi => HLL.out.2 i (by have h2 := HN.out; omega)))
  clear hS1 hS2 hb1 hb2
  go_upto_region 7 with (go_at_call 20; refine HSA.out.mono ?_; rintro e w3 ⟨rfl, hb3⟩)
  have HK3 : Hid (Kept [] w w3) := Lib.hid (HK2.out.call hb3)
  by_cases h0 : pe = 0
  case neg =>
    have d0 : (pe != 0) = true := by simpa using h0
    have HKN := Lib.hid (knows35_any w3 (HE.out.later HK3.out.toBelow))
    clear h0
    go_wp2_with (go_at_call 13; refine HKN.out.mono ?_; rintro e w4 ⟨rfl, hb4⟩)
    go_ret
    exact ⟨rfl, (HK3.out.call hb4).toBelow⟩
  subst h0
  have HT := Lib.hid (ptext_any A1 n1 c1 L w3 (HS1.out.later hb3) (by have h1 := HLL.out.1; have h2 := HN.out; omega) (HE.out.later HK3.out.toBelow).tabs)
  rw [(HTP.out L pk rfl).1] at HT
  clear hb3
  go_wp2_with (first | (go_at_call 17; refine HT.out.mono ?_; rintro e w4 ⟨rfl, hb4⟩; have HK4 : Hid (Kept [] w w4) := Lib.hid (HK3.out.call hb4)) | (go_at_call 13; refine (knows35_any _ (HE.out.later HK4.out.toBelow)).mono ?_; rintro e w5 ⟨rfl, hb5⟩))
  go_ret
  exact ⟨rfl, (HK4.out.call hb5).toBelow⟩
set_option maxRecDepth 100000 in
set_option maxHeartbeats 4000000 in
theorem sumText_any (A : Option Addr) (n c : Nat) (L : List Su) (w : World) (hS : SmW w A n L) (hn : n ≤ 9223372036854775807) (hE : Env w) :
    Calls Tryz.prog 5 #[.slice A n c] w fun e w' => e = .returned (.bool true) ∧ Below w.heap.size w w' := by
  have HS := Lib.hid hS
  have HE := Lib.hid hE
  have HSH := Lib.hid (short_any A n c L w hS hn)
  clear hS hE
  go_enter Tryz.func5, Tryz.ntmps5
  go_wp2_with fail
  refine HSH.out.mono ?_
  rintro e w1 ⟨⟨s, rfl⟩, hb1⟩
  have HK1 : Hid (Kept [] w w1) := Lib.hid ((Kept.refl [] w).call hb1)
  cases s with
  | false =>
    as_aux_lemma =>
      go_wp2_with fail
      go_ret
      exact ⟨rfl, hb1⟩
  | true =>
    by_cases h20 : 20 < n
    · have g1 : decide ((20 : Int) < (n : Int)) = true := by simp; omega
      clear h20
      as_aux_lemma =>
        go_wp2_with fail
        go_ret
        exact ⟨rfl, hb1⟩
    have g1 : decide ((20 : Int) < (n : Int)) = false := by simp; omega
    have HT1 := Lib.hid (ptext_any A n c L w1 (HS.out.later hb1) hn (HE.out.later HK1.out.toBelow).tabs)
    have HT2 := Lib.hid (fun (w2 : World) (hk : Kept [] w w2) => rText_any A n c L w2 (HS.out.later hk.toBelow))
    have HPT := Lib.hid (fun h => par_tex (L := L) h)
    have HOK := Lib.hid (fun h => sum_len (tex_ok (L := L) h))
    have HTL := Lib.hid (tex_len L)
    obtain ⟨r, hr⟩ : ∃ r, texS L = r := ⟨_, rfl⟩
    rw [hr] at HT1 HT2 HPT HOK HTL
    obtain ⟨t, pe⟩ := r
    clear hr h20 hb1
    go_upto_region 5 with (first | (go_at_call 17; refine HT1.out.mono ?_; rintro e w2 ⟨rfl, hb2⟩; have HK2 : Hid (Kept [] w w2) := Lib.hid (HK1.out.call hb2)) | (go_at_call 18; refine (HT2.out _ HK2.out).mono ?_; rintro e w3 ⟨rfl, hb3⟩; have HK3 : Hid (Kept [] w w3) := Lib.hid (HK2.out.call hb3)))
    clear hb2 hb3
    by_cases h0 : pe = 0
    case neg =>
      have d0 : (pe != 0) = true := by simpa using h0
      have HKN := Lib.hid (knows35_any w3 (HE.out.later HK3.out.toBelow))
      clear h0
      as_aux_lemma =>
        go_wp2_with (go_at_call 13; refine HKN.out.mono ?_; rintro e w4 ⟨rfl, hb4⟩)
        go_ret
        exact ⟨rfl, (HK3.out.call hb4).toBelow⟩
    subst h0
    have HPA := Lib.hid (pParse_any t w3 (by have h9 := HTL.out; omega) (HE.out.later HK3.out.toBelow).mx (HE.out.later HK3.out.toBelow).et)
    rw [HPT.out rfl] at HPA
    have HSA := Lib.hid (fun (A2 : Option Addr) (n2 c2 : Nat) (w4 : World) (hk : Kept [] w w4) (h : SmW w4 A2 n2 L) => same35_any A2 A n2 c2 c L w4 h (by have h1 := h.len; have h2 := HS.out.len; obtain rfl : n2 = n := (by omega); exact HS.out.later hk.toBelow) (by have h1 := h.len; have h2 := (HOK.out rfl).1; omega) (fun i hi => (HOK.out rfl).2 i (by rw [h.len]; exact hi)))
    have HLN := Lib.hid HS.out.len
    -- MARK1
    go_upto_region 10 with (go_at_call 19; refine HPA.out.mono ?_; rintro e w4 ⟨A2, n2, c2, rfl, hS4, hb4⟩)
    have HK4 : Hid (Kept [] w w4) := Lib.hid (HK3.out.call hb4)
    obtain rfl : n2 = n := hS4.len.symm.trans HLN.out
    have HSB := Lib.hid (HSA.out A2 n2 c2 w4 HK4.out hS4)
    clear hS4 hb4
    go_wp2_with (first | (go_at_call 20; refine HSB.out.mono ?_; rintro e w5 ⟨rfl, hb5⟩; have HK5 : Hid (Kept [] w w5) := Lib.hid (HK4.out.call hb5)) | (go_at_call 13; refine (knows35_any _ (HE.out.later HK5.out.toBelow)).mono ?_; rintro e w6 ⟨rfl, hb6⟩))
    go_ret
    exact ⟨rfl, (HK5.out.call hb6).toBelow⟩
set_option maxRecDepth 100000 in
set_option maxHeartbeats 4000000 in
theorem sumApply_any (E T B : Option Addr) (ne ce nt ct m d : Nat) (uf : Int) (x y : List Pr) (l : List Int) (w : World) (hx : Prs w E ne x) (hy : Prs w T nt y) (hI : Ints w B m l) (hwl : ∀ x ∈ l, (Lit.int .i64 x).wf = true) (hwx : ∀ q ∈ x, (Lit.int .i64 q.i).wf = true) (hwy : ∀ q ∈ y, (Lit.int .i64 q.i).wf = true) (hE : Env w) :
    Calls Tryz.prog 4 #[.agg #[.int .i64 uf, .slice E ne ce, .slice T nt ct], .slice B m d] w fun e w' => e = .returned (.bool true) ∧ Below w.heap.size w w' := by
  have HX := Lib.hid hx
  have HY := Lib.hid hy
  have HI := Lib.hid hI
  have HE := Lib.hid hE
  have HW := Lib.hid (And.intro hwl (And.intro hwx hwy))
  clear hx hy hI hE hwl hwx hwy
  go_enter Tryz.func4, Tryz.ntmps4
  go_upto_region 1 with fail
  refine wp_named (fun W => ∃ b0, w.heap.size = b0 ∧ Blk W b0 [.int .i64 uf, .slice E ne ce, .slice T nt ct] ∧ Below w.heap.size w W) ⟨_, rfl, ?_, ?_⟩ ?_
  · exact Blk.new _ _ _ _ (by first | rfl | simp)
  · go_grown
  rintro W ⟨b0, e0, B0, hB⟩
  rw [e0]
  have G0 : w.heap.size ≤ b0 := by omega
  clear e0
  have ⟨L0, C0, F0⟩ := B0
  have HKW : Hid (Kept [] w W) := Lib.hid ((Kept.refl _ _).call hB)
  by_cases q1 : 200 < ne
  · have g1 : decide ((200 : Int) < (ne : Int)) = true := by simp; omega
    clear q1
    as_aux_lemma =>
      go_wp2_with fail
      go_ret
      exact ⟨rfl, hB⟩
  have g1 : decide ((200 : Int) < (ne : Int)) = false := by simp; omega
  by_cases q2 : 200 < nt
  · have g2 : decide ((200 : Int) < (nt : Int)) = true := by simp; omega
    clear q1 q2
    as_aux_lemma =>
      go_wp2_with fail
      go_ret
      exact ⟨rfl, hB⟩
  have g2 : decide ((200 : Int) < (nt : Int)) = false := by simp; omega
  by_cases q3 : 100 < m
  · have g3 : decide ((100 : Int) < (m : Int)) = true := by simp; omega
    clear q1 q2 q3
    as_aux_lemma =>
      go_wp2_with fail
      go_ret
      exact ⟨rfl, hB⟩
  have g3 : decide ((100 : Int) < (m : Int)) = false := by simp; omega
  have HA1 := Lib.hid (pap_any E T B ne ce nt ct m d uf x y l W (HX.out.later HKW.out.toBelow) (HY.out.later HKW.out.toBelow) (HI.out.kept HKW.out) (by omega) (by omega) (by omega) HW.out.1 HW.out.2.1 HW.out.2.2)
  have HA2 := Lib.hid (fun (w1 : World) (hk : Kept [] w w1) => rap_any E T B ne ce nt ct m d uf x y l w1 (HX.out.later hk.toBelow) (HY.out.later hk.toBelow) (HI.out.kept hk) (by omega) (by omega) (by omega))
  obtain ⟨a, ha⟩ : ∃ a, applyF x l = a := ⟨_, rfl⟩
  obtain ⟨b, hb⟩ : ∃ b, applyF y l = b := ⟨_, rfl⟩
  rw [ha, hb] at HA1 HA2
  have HAL : Hid (a.length ≤ 9223372036854775807 ∧ b.length ≤ 9223372036854775807) := Lib.hid (by
    rw [← ha, ← hb]
    have h1 := HX.out.1
    have h2 := HY.out.1
    have h3 := applyF_len x l
    have h4 := applyF_len y l
    omega)
  clear ha hb q1 q2 q3 hB
  -- MARK2
  go_upto_region 5 with (first | (go_at_call 14; refine HA1.out.mono ?_; rintro e w1 ⟨A1, n1, c1, A2, n2, c2, rfl, hi1, hi2, hb1⟩; have HI1 := Lib.hid hi1; have HI2 := Lib.hid hi2; have HK1 : Hid (Kept [] w w1) := Lib.hid (HKW.out.call hb1); have HKW1 : Hid (Kept [] W w1) := Lib.hid ((Kept.refl [] W).call hb1); have r0 := (HKW1.out.cell b0 0 L0 (by simp)).trans (C0 0); have r1 := (HKW1.out.cell b0 1 L0 (by simp)).trans (C0 1); have r2 := (HKW1.out.cell b0 2 L0 (by simp)).trans (C0 2); clear hi1 hi2) | (go_at_call 15; refine (HA2.out _ HK1.out).mono ?_; rintro e w2 ⟨A3, n3, c3, A4, n4, c4, rfl, hi3, hi4, hb2⟩; have HI3 := Lib.hid hi3; have HI4 := Lib.hid hi4; have HK2 : Hid (Kept [] w w2) := Lib.hid (HK1.out.call hb2); have HKK : Hid (Kept [] w1 w2) := Lib.hid ((Kept.refl [] w1).call hb2); clear hi3 hi4))
  obtain rfl : n1 = n3 := HI1.out.1.symm.trans HI3.out.1
  obtain rfl : n2 = n4 := HI2.out.1.symm.trans HI4.out.1
  have HS1 := Lib.hid (fun (w3 : World) (hk : Kept [] w2 w3) => samef_any A1 A3 n1 c1 c3 a w3 (HI1.out.kept (keptTrans HKK.out hk)) (HI3.out.kept hk) (by have h1 := HAL.out.1; have h2 := HI1.out.1; omega))
  have HS2 := Lib.hid (fun (w3 : World) (hk : Kept [] w2 w3) => samef_any A2 A4 n2 c2 c4 b w3 (HI2.out.kept (keptTrans HKK.out hk)) (HI4.out.kept hk) (by have h1 := HAL.out.2; have h2 := HI2.out.1; omega))
  clear C0 F0 r0 r1 r2 g1 g2 g3
  go_wp2_with (first | (go_at_call 16; (with_reducible refine (HS1.out _ (Kept.refl _ _)).mono ?_); rintro e w3 ⟨rfl, hb3⟩; have HK3 : Hid (Kept [] w2 w3) := Lib.hid ((Kept.refl [] w2).call hb3)) | (go_at_call 16; (with_reducible refine (HS2.out _ HK3.out).mono ?_); rintro e w4 ⟨rfl, hb4⟩; have HK4 : Hid (Kept [] w w4) := Lib.hid (keptTrans HK2.out (HK3.out.call hb4))) | (go_at_call 13; refine (knows35_any _ (HE.out.later HK4.out.toBelow)).mono ?_; rintro e w6 ⟨rfl, hb6⟩))
  go_ret
  exact ⟨rfl, (HK4.out.call hb6).toBelow⟩
end Go.Proofs.YtooejoajojanjaaGreatDoor
