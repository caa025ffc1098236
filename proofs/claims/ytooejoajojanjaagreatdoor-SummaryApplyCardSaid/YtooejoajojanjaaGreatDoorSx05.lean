/- Texts: Pf. -/
import Derived.Test.YtooejoajojanjaaGreatDoorSx04
namespace Go.Proofs.YtooejoajojanjaaGreatDoor
open Go.RowKit Go.Df Go.Df.If
attribute [local go_sem ↓] Go.wp_at_zero Go.wp_at_succ
theorem les_gt {a b c d : Int} (h : c < a) : lessR ⟨a, b⟩ ⟨c, d⟩ = false := by
  unfold lessR
  dsimp only
  rw [if_pos (by omega)]
  exact decide_eq_false (by omega)
theorem les_eq {a b c d : Int} (h : a = c) (h2 : d ≤ b) : lessR ⟨a, b⟩ ⟨c, d⟩ = false := by
  unfold lessR
  dsimp only
  rw [if_neg (not_not_intro h)]
  exact decide_eq_false (by omega)
theorem les_eq2 {a b c d : Int} (h : a = c) (h2 : ¬ d ≤ b) : lessR ⟨a, b⟩ ⟨c, d⟩ = true := by
  unfold lessR
  dsimp only
  rw [if_neg (not_not_intro h)]
  exact decide_eq_true (by omega)
theorem les_ne {a b c d : Int} (h : ¬ c < a) (h2 : ¬ a = c) : lessR ⟨a, b⟩ ⟨c, d⟩ = true := by
  unfold lessR
  dsimp only
  rw [if_pos h2]
  exact decide_eq_true (by omega)
set_option maxRecDepth 100000 in
set_option maxHeartbeats 8000000 in
theorem rlist_any (A : Option Addr) (n c : Nat) (F : Int) (l : List Pr) (w : World) (hP : Prs w A n l) (e : Int) (he : lsErr F l = e) :
    Calls Tryz.prog 36 #[.slice A n c, .int .i64 F] w fun e' w' => e' = .returned (.int .i64 e) ∧ Below w.heap.size w w' := by
  have HP := Lib.hid hP
  have HL := Lib.hid hP.1
  have HE0 := Lib.hid he
  clear hP he
  by_cases t1 : 8192 < n
  · have d1 : decide ((8192 : Int) < n) = true := by simp; omega
    have hE : Hid (e = 3) := by show _ = _; rw [← HE0.out]; unfold lsErr; rw [HL.out, if_pos t1]
    go_enter Tryz.func36, Tryz.ntmps36
    go_wp2_with fail
    go_ret
    exact ⟨ret_int hE.out.symm, Below.refl _ _⟩
  have d1 : decide ((8192 : Int) < n) = false := by simp; omega
  have hn8 : n ≤ 8192 := by omega
  have HFE : Hid (e = Sp.fe (prErr F l) 0 n) := by
    show _ = _
    rw [← HE0.out]
    unfold lsErr
    rw [HL.out, if_neg t1]
  clear t1
  go_enter Tryz.func36, Tryz.ntmps36
  go_wp2_with fail
  go_loopw [5] (fun s wr => ∃ j : Nat, j ≤ n ∧ s = .int .i64 j ∧ Hid (Kept [] w wr) ∧ Hid (∀ x, x < j → prErr F l x = 0)) (fun s _ => n - (intOf s).toNat)
  case atStart => exact ⟨0, Nat.zero_le _, rfl, Lib.hid (Kept.refl _ _), Lib.hid (fun x hx => absurd hx (by omega))⟩
  case round =>
  obtain ⟨j, hj, rfl, HKR, HNO⟩ := hrel
  by_cases hlt : j < n
  case neg =>
    obtain rfl : j = n := by omega
    have hE : Hid (e = 0) := by show _ = _; rw [HFE.out]; exact fe_iff.2 (fun x hx => HNO.out x hx)
    go_wp2_with fail
    go_ret
    exact ⟨ret_int hE.out.symm, HKR.out.toBelow⟩
  obtain ⟨b, o, rfl, hl, hc⟩ := (HP.out.later HKR.out.toBelow).2 (by omega)
  obtain ⟨h1, h2⟩ := hc j hlt
  have HC := Lib.hid hc
  clear hc
  obtain ⟨xi, xo, en⟩ : ∃ xi xo, gp l j = ⟨xi, xo⟩ := ⟨_, _, rfl⟩
  rw [en] at h1 h2
  have hj9 : (j : Int) < (n : Int) := by omega
  have HBAD : Hid (∀ e', prErr F l j = e' → e' ≠ 0 → e = e') := fun e' h1 h2 => HFE.out.trans (Sp.fe_hit HNO.out hlt h1 h2)
  have HSTEP : Hid (prErr F l j = 0 → ∀ x, x < j + 1 → prErr F l x = 0) := fun h0 x hx => by
    by_cases e9 : x = j
    · rw [e9]; exact h0
    · exact HNO.out x (by omega)
  have HEr : Hid (prErr F l j = if xi < 0 ∨ F ≤ xi ∨ xo < 0 ∨ F ≤ xo then 4 else if 0 < j ∧ lessR (gp l (j - 1)) ⟨xi, xo⟩ = false then 13 else 0) := by
    show _ = _
    unfold prErr
    rw [en]
  clear en
  by_cases r0 : xi < 0
  · have z : decide (xi < 0) = true := by simpa using r0
    have hE := Lib.hid (HBAD.out 4 (by rw [HEr.out, if_pos (by omega)]) (by omega))
    go_wp2_with fail
    go_ret
    exact ⟨ret_int hE.out.symm, HKR.out.toBelow⟩
  have z0 : decide (xi < 0) = false := by simpa using r0
  by_cases r1 : F ≤ xi
  · have z : decide (F ≤ xi) = true := by simpa using r1
    have hE := Lib.hid (HBAD.out 4 (by rw [HEr.out, if_pos (by omega)]) (by omega))
    go_wp2_with fail
    go_ret
    exact ⟨ret_int hE.out.symm, HKR.out.toBelow⟩
  have z1 : decide (F ≤ xi) = false := by simpa using r1
  by_cases r2 : xo < 0
  · have z : decide (xo < 0) = true := by simpa using r2
    have hE := Lib.hid (HBAD.out 4 (by rw [HEr.out, if_pos (by omega)]) (by omega))
    go_wp2_with fail
    go_ret
    exact ⟨ret_int hE.out.symm, HKR.out.toBelow⟩
  have z2 : decide (xo < 0) = false := by simpa using r2
  by_cases r3 : F ≤ xo
  · have z : decide (F ≤ xo) = true := by simpa using r3
    have hE := Lib.hid (HBAD.out 4 (by rw [HEr.out, if_pos (by omega)]) (by omega))
    go_wp2_with fail
    go_ret
    exact ⟨ret_int hE.out.symm, HKR.out.toBelow⟩
  have z3 : decide (F ≤ xo) = false := by simpa using r3
  have HEy : Hid (prErr F l j = if 0 < j ∧ lessR (gp l (j - 1)) ⟨xi, xo⟩ = false then 13 else 0) := by
    show _ = _
    rw [HEr.out, if_neg (by omega)]
  clear HEr r0 r1 r2 r3
  by_cases hj0 : j = 0
  · have y1 : decide (0 < j) = false := by simp; omega
    have y2 : decide ((0 : Int) < (j : Int)) = false := by simp; omega
    have hfin := Lib.hid (HSTEP.out (by rw [HEy.out, if_neg (by omega)]))
    clear hj0
    go_upto_region 8 with fail
    go_quiet (fail)
    go_wp2_with fail
    exact ⟨⟨j + 1, by omega, by go_num, Lib.hid (HKR.out.drewN _), hfin⟩, by simp [intOf]; omega⟩
  have y1 : decide (0 < j) = true := by simp; omega
  have y2 : decide ((0 : Int) < (j : Int)) = true := by simp; omega
  have y3 : IntKind.i64.wrap ((j : Int) - 1) = (j : Int) - 1 := IntWalk.i64_in _ (by omega)
  have y4 : (0 : Int) ≤ (j : Int) - 1 := by omega
  have y5 : ((j : Int) - 1).toNat = j - 1 := by omega
  have y6 : (j : Int) - 1 < (n : Int) := by omega
  have y7 : 0 < j := by omega
  have y8 : 1 ≤ j := by omega
  have y9 : (1 : Int) ≤ (j : Int) := by omega
  have y10 : j ≤ n := by omega
  have y11 : j < n + 1 := by omega
  have y12 : (j : Int) < (n : Int) + 1 := by omega
  have y13 : (j : Int) ≤ (n : Int) := by omega
  obtain ⟨p1, p2⟩ := HC.out (j - 1) (by omega)
  obtain ⟨pi, po, ep⟩ : ∃ pi po, gp l (j - 1) = ⟨pi, po⟩ := ⟨_, _, rfl⟩
  rw [ep] at p1 p2
  have HEx : Hid (prErr F l j = if lessR ⟨pi, po⟩ ⟨xi, xo⟩ = false then 13 else 0) := by
    show _ = _
    rw [HEy.out, ep]
    simp [y7]
  clear ep hj0 HEy
  by_cases g1 : xi < pi
  · have q1 : decide (xi < pi) = true := by simpa using g1
    have hE := Lib.hid (HBAD.out 13 (by rw [HEx.out, if_pos (by exact les_gt g1)]) (by omega))
    go_upto_region 8 with fail
    go_quiet (fail)
    go_wp2_with fail
    go_ret
    exact ⟨ret_int hE.out.symm, (HKR.out.drewN _).toBelow⟩
  have q1 : decide (xi < pi) = false := by simpa using g1
  by_cases g2 : pi = xi
  · have q2 : (pi == xi) = true := by simpa using g2
    by_cases g3 : xo ≤ po
    · have q3 : decide (xo ≤ po) = true := by simpa using g3
      have hE := Lib.hid (HBAD.out 13 (by rw [HEx.out, if_pos (by exact les_eq g2 g3)]) (by omega))
      go_upto_region 8 with fail
      go_quiet (fail)
      go_wp2_with fail
      go_ret
      exact ⟨ret_int hE.out.symm, (HKR.out.drewN _).toBelow⟩
    · have q3 : decide (xo ≤ po) = false := by simpa using g3
      have hfin := Lib.hid (HSTEP.out (by rw [HEx.out, if_neg (by rw [les_eq2 g2 g3]; simp)]))
      go_upto_region 8 with fail
      go_quiet (fail)
      go_wp2_with fail
      exact ⟨⟨j + 1, by omega, by go_num, Lib.hid (HKR.out.drewN _), hfin⟩, by simp [intOf]; omega⟩
  · have q2 : (pi == xi) = false := by simpa using g2
    have hfin := Lib.hid (HSTEP.out (by rw [HEx.out, if_neg (by rw [les_ne g1 g2]; simp)]))
    go_upto_region 8 with fail
    go_quiet (fail)
    go_wp2_with fail
    exact ⟨⟨j + 1, by omega, by go_num, Lib.hid (HKR.out.drewN _), hfin⟩, by simp [intOf]; omega⟩
set_option maxRecDepth 100000 in
set_option maxHeartbeats 8000000 in
theorem rsumck_any (A : Option Addr) (n c : Nat) (L : List Su) (F : Int) (w : World) (hS : SmW w A n L) :
    Calls Tryz.prog 12 #[.slice A n c, .int .i64 F] w fun e w' => e = .returned (.int .i64 (sumErr F L)) ∧ Below w.heap.size w w' := by
  have HS := Lib.hid hS
  have HL := Lib.hid hS.len
  clear hS
  by_cases f0 : F < 1
  · have zf : decide (F < 1) = true := by simpa using f0
    have hE : Hid (sumErr F L = 4) := by show _ = _; unfold sumErr; rw [if_pos (.inl f0)]
    go_enter Tryz.func12, Tryz.ntmps12
    go_wp2_with fail
    go_ret
    exact ⟨ret_int hE.out.symm, Below.refl _ _⟩
  have zf0 : decide (F < 1) = false := by simpa using f0
  by_cases f1 : 1024 < F
  · have zf : decide (1024 < F) = true := by simpa using f1
    have hE : Hid (sumErr F L = 4) := by show _ = _; unfold sumErr; rw [if_pos (.inr f1)]
    go_enter Tryz.func12, Tryz.ntmps12
    go_wp2_with fail
    go_ret
    exact ⟨ret_int hE.out.symm, Below.refl _ _⟩
  have zf1 : decide (1024 < F) = false := by simpa using f1
  by_cases t1 : 256 < n
  · have d1 : decide ((256 : Int) < n) = true := by simp; omega
    have hE : Hid (sumErr F L = 3) := by show _ = _; unfold sumErr; rw [if_neg (by omega), HL.out, if_pos (by omega)]
    go_enter Tryz.func12, Tryz.ntmps12
    go_wp2_with fail
    go_ret
    exact ⟨ret_int hE.out.symm, Below.refl _ _⟩
  have d1 : decide ((256 : Int) < n) = false := by simp; omega
  have hn256 : n ≤ 256 := by omega
  have HFE : Hid (sumErr F L = Sp.fe (suErr F L) 0 n) := by
    show _ = _
    have h1 := HL.out
    unfold sumErr
    rw [if_neg (by omega), if_neg (by omega), h1]
  clear f0 f1 t1
  go_enter Tryz.func12, Tryz.ntmps12
  go_wp2_with fail
  go_loopw [5] (fun s wr => ∃ i : Nat, i ≤ n ∧ s = .int .i64 i ∧ Hid (Kept [] w wr) ∧ Hid (∀ x, x < i → suErr F L x = 0)) (fun s _ => n - (intOf s).toNat)
  case atStart => exact ⟨0, Nat.zero_le _, rfl, Lib.hid (Kept.refl _ _), Lib.hid (fun x hx => absurd hx (by omega))⟩
  case round =>
  obtain ⟨i, hi, rfl, HKR, HNS⟩ := hrel
  by_cases hlt : i < n
  case neg =>
    obtain rfl : i = n := by omega
    have hE : Hid (sumErr F L = 0) := by show _ = _; rw [HFE.out]; exact fe_iff.2 (fun x hx => HNS.out x hx)
    go_wp2_with fail
    go_ret
    exact ⟨ret_int hE.out.symm, HKR.out.toBelow⟩
  obtain ⟨b, o, rfl, hl, hc⟩ := (HS.out.later HKR.out.toBelow).mem (by omega)
  obtain ⟨E, ne, ce, T, nt, ct, c0, c1, c2, hpx, hpy⟩ := hc i hlt
  have HC := Lib.hid hc
  have HPX := Lib.hid hpx
  have HPY := Lib.hid hpy
  obtain ⟨x, en⟩ : ∃ x, (gS L i).f = x := ⟨_, rfl⟩
  rw [en] at c0
  have hi9 : (i : Int) < (n : Int) := by omega
  have HFN : Hid (fnErr L i = if x < 0 ∨ 256 ≤ x then 4 else if 0 < i ∧ x ≤ (gS L (i - 1)).f then 13 else 0) := by
    show _ = _
    unfold fnErr
    rw [en]
  have HBF : Hid (∀ e, fnErr L i = e → e ≠ 0 → sumErr F L = e) := fun e h1 h2 => HFE.out.trans (Sp.fe_hit HNS.out hlt (by unfold suErr; rw [h1, if_pos h2]) h2)
  have HBX : Hid (∀ e, fnErr L i = 0 → lsErr F (gS L i).x = e → e ≠ 0 → sumErr F L = e) := fun e h0 h1 h2 => HFE.out.trans (Sp.fe_hit HNS.out hlt (by unfold suErr; rw [if_neg (not_not_intro h0), h1, if_pos h2]) h2)
  have HBY : Hid (∀ e, fnErr L i = 0 → lsErr F (gS L i).x = 0 → lsErr F (gS L i).y = e → e ≠ 0 → sumErr F L = e) := fun e h0 h1 h2 h3 => HFE.out.trans (Sp.fe_hit HNS.out hlt (by unfold suErr; rw [if_neg (not_not_intro h0), if_neg (not_not_intro h1), h2]) h3)
  have HST : Hid (fnErr L i = 0 → lsErr F (gS L i).x = 0 → lsErr F (gS L i).y = 0 → ∀ y, y < i + 1 → suErr F L y = 0) := fun h0 h1 h2 y hy => by
    by_cases e : y = i
    · rw [e]; exact su_ok.2 ⟨h0, h1, h2⟩
    · exact HNS.out y (by omega)
  clear hpx hpy en hc
  by_cases r0 : x < 0
  · have z : decide (x < 0) = true := by simpa using r0
    have hE := Lib.hid (HBF.out 4 (by rw [HFN.out, if_pos (by omega)]) (by omega))
    go_wp2_with fail
    go_ret
    exact ⟨ret_int hE.out.symm, HKR.out.toBelow⟩
  have z0 : decide (x < 0) = false := by simpa using r0
  by_cases r1 : 256 ≤ x
  · have z : decide (256 ≤ x) = true := by simpa using r1
    have hE := Lib.hid (HBF.out 4 (by rw [HFN.out, if_pos (by omega)]) (by omega))
    go_wp2_with fail
    go_ret
    exact ⟨ret_int hE.out.symm, HKR.out.toBelow⟩
  have z1 : decide (256 ≤ x) = false := by simpa using r1
  have HFY : Hid (fnErr L i = if 0 < i ∧ x ≤ (gS L (i - 1)).f then 13 else 0) := by
    show _ = _
    rw [HFN.out, if_neg (by omega)]
  clear HFN r0 r1
  -- k10
  obtain ⟨y, ey⟩ : ∃ y, (gS L (i - 1)).f = y := ⟨_, rfl⟩
  have HY := Lib.hid ey
  clear ey
  by_cases hbd : 0 < i ∧ x ≤ y
  · obtain ⟨h0, hxy⟩ := hbd
    have hE := Lib.hid (HBF.out 13 (by rw [HFY.out, HY.out, if_pos ⟨h0, hxy⟩]) (by omega))
    have g1 : decide (x ≤ y) = true := by simpa using hxy
    obtain ⟨-, -, -, -, -, -, p1, -⟩ := HC.out (i - 1) (by omega)
    rw [HY.out] at p1
    have y1 : decide (0 < i) = true := by simp; omega
    have y2 : decide ((0 : Int) < (i : Int)) = true := by simp; omega
    have y3 : IntKind.i64.wrap ((i : Int) - 1) = (i : Int) - 1 := IntWalk.i64_in _ (by omega)
    have y4 : (0 : Int) ≤ (i : Int) - 1 := by omega
    have y5 : ((i : Int) - 1).toNat = i - 1 := by omega
    have y6 : (i : Int) - 1 < (n : Int) := by omega
    have y7 : 0 < i := by omega
    have y8 : 1 ≤ i := by omega
    have y9 : (1 : Int) ≤ (i : Int) := by omega
    have y10 : i ≤ n := by omega
    have y11 : i < n + 1 := by omega
    have y12 : (i : Int) < (n : Int) + 1 := by omega
    have y13 : (i : Int) ≤ (n : Int) := by omega
    clear h0
    go_upto_region 10 with fail
    go_quiet (fail)
    go_wp2_with fail
    go_ret
    exact ⟨ret_int hE.out.symm, (HKR.out.drewN _).toBelow⟩
  have HF0 : Hid (fnErr L i = 0) := by show _ = _; rw [HFY.out, HY.out, if_neg hbd]
  go_upto_region 10 with fail
  go_cut [52] (fun s wx => s = .bool false ∧ Kept [] wr wx)
  case first =>
    by_cases hi0 : i = 0
    · have y1 : decide (0 < i) = false := by simp; omega
      have y2 : decide ((0 : Int) < (i : Int)) = false := by simp; omega
      clear hi0 hbd
      go_quiet (fail)
      go_wp2_with fail
      go_meet
      exact ⟨rfl, (Kept.refl _ _).drewN _⟩
    · have g1 : decide (x ≤ y) = false := by simp; omega
      obtain ⟨-, -, -, -, -, -, p1, -⟩ := HC.out (i - 1) (by omega)
      rw [HY.out] at p1
      have y1 : decide (0 < i) = true := by simp; omega
      have y2 : decide ((0 : Int) < (i : Int)) = true := by simp; omega
      have y3 : IntKind.i64.wrap ((i : Int) - 1) = (i : Int) - 1 := IntWalk.i64_in _ (by omega)
      have y4 : (0 : Int) ≤ (i : Int) - 1 := by omega
      have y5 : ((i : Int) - 1).toNat = i - 1 := by omega
      have y6 : (i : Int) - 1 < (n : Int) := by omega
      have y7 : 0 < i := by omega
      have y8 : 1 ≤ i := by omega
      have y9 : (1 : Int) ≤ (i : Int) := by omega
      have y10 : i ≤ n := by omega
      have y11 : i < n + 1 := by omega
      have y12 : (i : Int) < (n : Int) + 1 := by omega
      have y13 : (i : Int) ≤ (n : Int) := by omega
      clear hi0 hbd
      go_quiet (fail)
      go_wp2_with fail
      go_meet
      exact ⟨rfl, (Kept.refl _ _).drewN _⟩
  case rest =>
  obtain ⟨rfl, hkc⟩ := hcut
  rename World => wc
  have HKC : Hid (Kept [] w wc) := Lib.hid (keptTrans HKR.out hkc)
  have hlc : b < wc.heap.size := Nat.lt_of_lt_of_le hl hkc.size
  have k1 := (hkc.cell b _ hl (by simp)).trans c1
  have k2 := (hkc.cell b _ hl (by simp)).trans c2
  have HPX := Lib.hid (HPX.out.later hkc.toBelow)
  have HPY := Lib.hid (HPY.out.later hkc.toBelow)
  clear c0 c1 c2 hbd
  obtain ⟨ex, hex⟩ : ∃ ex, lsErr F (gS L i).x = ex := ⟨_, rfl⟩
  obtain ⟨ey, hey⟩ : ∃ ey, lsErr F (gS L i).y = ey := ⟨_, rfl⟩
  have HEX := Lib.hid hex
  have HEY := Lib.hid hey
  clear hex hey
  go_upto_region 13 with (go_at_call 36; refine (rlist_any E ne ce F (gS L i).x _ HPX.out ex HEX.out).mono ?_; rintro e w4 ⟨rfl, hb4⟩)
  have hk4 : Kept [] wc w4 := (Kept.refl _ _).call hb4
  have HK4 : Hid (Kept [] w w4) := Lib.hid (keptTrans HKC.out hk4)
  by_cases h0 : ex = 0
  case neg =>
    have d0 : (ex != 0) = true := by simpa using h0
    have hE := Lib.hid (HBX.out ex HF0.out HEX.out h0)
    clear h0
    go_wp2_with fail
    go_ret
    exact ⟨ret_int hE.out.symm, HK4.out.toBelow⟩
  subst h0
  have hl4 : b < w4.heap.size := Nat.lt_of_lt_of_le hlc hk4.size
  have m2 := (hk4.cell b _ hlc (by simp)).trans k2
  have HPY := Lib.hid (HPY.out.later hk4.toBelow)
  clear k1 k2
  go_upto_region 16 with (go_at_call 36; refine (rlist_any T nt ct F (gS L i).y _ HPY.out ey HEY.out).mono ?_; rintro e w5 ⟨rfl, hb5⟩)
  have HK5 : Hid (Kept [] w w5) := Lib.hid (HK4.out.call hb5)
  by_cases h0 : ey = 0
  case neg =>
    have d0 : (ey != 0) = true := by simpa using h0
    have hE := Lib.hid (HBY.out ey HF0.out HEX.out HEY.out h0)
    clear h0
    go_wp2_with fail
    go_ret
    exact ⟨ret_int hE.out.symm, HK5.out.toBelow⟩
  subst h0
  have hfin := Lib.hid (HST.out HF0.out HEX.out HEY.out)
  go_wp2_with fail
  exact ⟨⟨i + 1, by omega, by go_num, HK5, hfin⟩, by simp [intOf]; omega⟩
end Go.Proofs.YtooejoajojanjaaGreatDoor
