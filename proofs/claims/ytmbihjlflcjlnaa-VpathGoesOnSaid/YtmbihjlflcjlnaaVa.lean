/- The contracts of vpath's returns, check and step. -/
import Derived.Test.YtmbihjlflcjlnaaVp
namespace Go.Proofs.Ytmbihjlflcjlnaa
open Go.RowKit Go.Df
attribute [local go_sem ↓] Go.wp_at_zero Go.wp_at_succ

theorem returns_any (ea eb ek ec : Int) (v : Bool) (hv : v = (decide (ek = 3) || decide (ek = 4))) (w : World) :
    Calls Try.prog 24 #[.agg #[.int .i64 ea, .int .i64 eb, .int .i64 ek, .int .i64 ec]] w fun e w' => e = .returned (.bool v) ∧ Below w.heap.size w w' := by
  go_enter Try.func24, Try.ntmps24
  go_upto_region 1 with fail
  refine wp_named (fun W => ∃ b0, w.heap.size = b0 ∧ Blk W b0 [.int .i64 ea, .int .i64 eb, .int .i64 ek, .int .i64 ec] ∧ Below w.heap.size w W) ⟨_, rfl, ?_, ?_⟩ ?_
  · exact Blk.new _ _ _ _ (by first | rfl | simp)
  · go_grown
  rintro W ⟨b0, e0, B0, hB⟩
  rw [e0]
  have G0 : w.heap.size ≤ b0 := by omega
  clear e0
  have ⟨L0, C0, F0⟩ := B0
  obtain ⟨x3, h3⟩ : ∃ x, (ek == 3) = x := ⟨_, rfl⟩
  obtain ⟨x4, h4⟩ : ∃ x, (ek == 4) = x := ⟨_, rfl⟩
  have HV : Hid (v = (x3 || x4)) := by
    show v = _
    rw [hv, ← h3, ← h4, Bool.eq_iff_iff]; simp
  clear hv
  cases x3 with
  | true =>
    go_wp2_with fail
    go_ret
    exact ⟨ret_bool (by rw [HV.out]; rfl), hB⟩
  | false =>
    cases x4 with
    | true =>
      go_wp2_with fail
      go_ret
      exact ⟨ret_bool (by rw [HV.out]; rfl), hB⟩
    | false =>
      go_wp2_with fail
      go_ret
      exact ⟨ret_bool (by rw [HV.out]; rfl), hB⟩

set_option maxRecDepth 100000 in
set_option maxHeartbeats 1000000 in
theorem vcheck_any (A1 A2 : Option Addr) (n1 c1 n2 c2 : Nat) (mn fr : Int) (ns : List Sp.Nd) (es : List Sp.Ed) (w : World) (hn : Nds w A1 n1 ns) (he : Eds w A2 n2 es)
    (hwn : ∀ j, j < n1 → (Lit.int .i64 (gn ns j).f).wf = true) (hwe : ∀ j, j < n2 → (Lit.int .i64 (ge es j).a).wf = true ∧ (Lit.int .i64 (ge es j).b).wf = true) :
    Calls Try.prog 19 #[.agg #[.slice A1 n1 c1, .slice A2 n2 c2, .int .i64 mn], .int .i64 fr] w fun e w' => e = .returned (.int .i64 (Sp.chkErr ns es mn fr)) ∧ Below w.heap.size w w' := by
  have HN := Lib.hid hn
  have HL := Lib.hid hn.1
  have HE := Lib.hid he
  have HWN := Lib.hid hwn
  have HWE := Lib.hid hwe
  clear hn he hwn hwe
  go_enter Try.func19, Try.ntmps19
  go_upto_region 1 with fail
  refine wp_named (fun W => ∃ b0, w.heap.size = b0 ∧ Blk W b0 [.slice A1 n1 c1, .slice A2 n2 c2, .int .i64 mn] ∧ Below w.heap.size w W) ⟨_, rfl, ?_, ?_⟩ ?_
  · exact Blk.new _ _ _ _ (by first | rfl | simp)
  · go_grown
  rintro W ⟨b0, e0, B0, hB⟩
  rw [e0]
  have G0 : w.heap.size ≤ b0 := by omega
  clear e0
  have ⟨L0, C0, F0⟩ := B0
  go_wp2_with fail
  refine (super_any _ _ _ _ _ _ _ ns es _ (HN.out.later hB) (HE.out.later hB) HWN.out HWE.out).mono ?_
  rintro e w1 ⟨rfl, hb1⟩
  have hk1 : Kept [] W w1 := (Kept.refl _ _).call hb1
  have hB1 := hk1.below hB hB.size (by simp)
  have ⟨L1, C1, F1⟩ := hk1.blk (by simp) B0
  clear C0 F0
  obtain ⟨se, hse⟩ : ∃ x, Sp.superErr ns es mn = x := ⟨_, rfl⟩
  rw [hse]
  have HC : Hid (Sp.chkErr ns es mn fr = if se ≠ 0 then se else if fr < 0 ∨ (n1 : Int) ≤ fr then 4 else 0) := by
    show Sp.chkErr ns es mn fr = _
    unfold Sp.chkErr
    rw [hse, HL.out]
  clear hse
  by_cases h0 : se = 0
  · have h0' : (se != 0) = false := by simpa using h0
    have H0 := Lib.hid h0
    clear h0
    by_cases h1 : fr < 0
    · have d1 : decide (fr < 0) = true := by simpa using h1
      go_wp2_with fail
      go_ret
      exact ⟨ret_int (by rw [HC.out, H0.out, if_neg (by simp), if_pos (by omega)]), hB1⟩
    · have d1 : decide (fr < 0) = false := by simpa using h1
      by_cases h2 : (n1 : Int) ≤ fr
      · have d2 : decide ((n1 : Int) ≤ fr) = true := by simpa using h2
        go_wp2_with fail
        go_ret
        exact ⟨ret_int (by rw [HC.out, H0.out, if_neg (by simp), if_pos (by omega)]), hB1⟩
      · have d2 : decide ((n1 : Int) ≤ fr) = false := by simpa using h2
        go_wp2_with fail
        go_ret
        exact ⟨ret_int (by rw [HC.out, H0.out, if_neg (by simp), if_neg (by omega)]), hB1⟩
  · have h0' : (se != 0) = true := by simpa using h0
    have H0 := Lib.hid h0
    clear h0
    go_wp2_with fail
    go_ret
    exact ⟨ret_int (by rw [HC.out, if_pos H0.out]), hB1⟩

set_option maxRecDepth 100000 in
set_option maxHeartbeats 2000000 in
theorem step_any (A1 A2 P : Option Addr) (n1 c1 n2 c2 : Nat) (mn at_ k : Int) (S : Value) (es : List Sp.Ed) (cs : List Int) (w : World) (he : Eds w A2 n2 es) (hs : n2 ≤ 1000000) (hp : Pend w P cs) :
    Calls Try.prog 18 #[.agg #[.slice A1 n1 c1, .slice A2 n2 c2, .int .i64 mn], .agg #[S, .int .i64 at_, .pointer P], .int .i64 k] w fun e w' =>
      ∃ P', e = .returned (.tuple #[.agg #[.slice none 0 0, .int .i64 (Sp.stepS es at_ cs k).2.1, .pointer P'], .int .i64 (Sp.stepS es at_ cs k).1]) ∧ Pend w' P' (Sp.stepS es at_ cs k).2.2 ∧ Below w.heap.size w w' := by
  have HE := Lib.hid he
  have HL := Lib.hid he.1
  have HP := Lib.hid hp
  clear he hp
  go_enter Try.func18, Try.ntmps18
  go_upto_region 1 with fail
  refine wp_named (fun W => ∃ b0 b1 b2, w.heap.size = b0 ∧ w.heap.size + 1 = b1 ∧ w.heap.size + 1 + 1 = b2 ∧ Blk W b0 [.slice A1 n1 c1, .slice A2 n2 c2, .int .i64 mn] ∧ Blk W b1 [S, .int .i64 at_, .pointer P] ∧ Blk W b2 [.slice none 0 0, .int .i64 0, .pointer none] ∧ Below w.heap.size w W) ⟨_, _, _, rfl, rfl, rfl, ?_, ?_, ?_, ?_⟩ ?_
  · exact ((Blk.new _ _ _ _ (by first | rfl | simp)).alloc _).alloc _
  · exact (Blk.new _ _ _ _ (by first | rfl | simp)).alloc _
  · exact Blk.new _ _ _ _ (by first | rfl | simp)
  · go_grown
  rintro W ⟨b0, b1, b2, e0, e1, e2, B0, B1, B2, hB⟩
  rw [e2, e1, e0]
  have G0 : w.heap.size ≤ b0 := by omega
  have n01 : b0 ≠ b1 := by omega
  have n02 : b0 ≠ b2 := by omega
  have G1 : w.heap.size ≤ b1 := by omega
  have n10 : b1 ≠ b0 := by omega
  have n12 : b1 ≠ b2 := by omega
  have G2 : w.heap.size ≤ b2 := by omega
  have n20 : b2 ≠ b0 := by omega
  have n21 : b2 ≠ b1 := by omega
  clear e0 e1 e2
  have ⟨L0, C0, F0⟩ := B0
  have ⟨L1, C1, F1⟩ := B1
  have ⟨L2, C2, F2⟩ := B2
  by_cases hr1 : k < 0
  · have d1 : decide (k < 0) = true := by simpa using hr1
    have HS : Hid (Sp.stepS es at_ cs k = (4, 0, [])) := by
      show Sp.stepS es at_ cs k = _
      unfold Sp.stepS
      rw [HL.out, if_pos (by omega)]
    have hkX0 : Kept [b2] W W := Kept.refl _ _
    go_wp2_with fail
    try simp only [Exit.inBlock, Exit.then]
    refine post_named (fun X => Blk X b2 [.slice none 0 0, .int .i64 0, .pointer none] ∧ Kept [b2] W X) ⟨?_, ?_⟩ ?_
    · (repeat' first | (with_reducible assumption) | (with_reducible refine Blk.set3 ?_) | (with_reducible exact Blk.n (by assumption) rfl) | (with_reducible refine BlkN.drewN ?_ _) | (with_reducible refine BlkN.alloc ?_ _) | (with_reducible refine Blk.alloc ?_ _))
    · (repeat' first | (with_reducible assumption) | (with_reducible exact Kept.refl _ _) | (with_reducible refine Kept.alloc ?_ _) | (with_reducible refine Kept.call ?_ (by assumption)) | (with_reducible refine Kept.set ?_ _ _ _ (Or.inl (by simp))) | (with_reducible refine Kept.drew ?_) | (with_reducible refine Kept.drewN ?_ _) | (with_reducible exact hkX0))
    rintro X ⟨BX, hkX⟩
    have ⟨LX, CX, FX⟩ := BX
    have hBX := hkX.below hB hB.size (by simp; omega)
    refine bodyPost_ret (by simp [results, Try.results18, go_sem, CX]; try rfl) rfl ?_
    rw [HS.out]
    exact ⟨none, rfl, rfl, hBX⟩
  have da : decide (k < 0) = false := by simpa using hr1
  by_cases hr2 : (n2 : Int) ≤ k
  · have d1 : decide ((n2 : Int) ≤ k) = true := by simpa using hr2
    have HS : Hid (Sp.stepS es at_ cs k = (4, 0, [])) := by
      show Sp.stepS es at_ cs k = _
      unfold Sp.stepS
      rw [HL.out, if_pos (by omega)]
    have hkX0 : Kept [b2] W W := Kept.refl _ _
    go_wp2_with fail
    try simp only [Exit.inBlock, Exit.then]
    refine post_named (fun X => Blk X b2 [.slice none 0 0, .int .i64 0, .pointer none] ∧ Kept [b2] W X) ⟨?_, ?_⟩ ?_
    · (repeat' first | (with_reducible assumption) | (with_reducible refine Blk.set3 ?_) | (with_reducible exact Blk.n (by assumption) rfl) | (with_reducible refine BlkN.drewN ?_ _) | (with_reducible refine BlkN.alloc ?_ _) | (with_reducible refine Blk.alloc ?_ _))
    · (repeat' first | (with_reducible assumption) | (with_reducible exact Kept.refl _ _) | (with_reducible refine Kept.alloc ?_ _) | (with_reducible refine Kept.call ?_ (by assumption)) | (with_reducible refine Kept.set ?_ _ _ _ (Or.inl (by simp))) | (with_reducible refine Kept.drew ?_) | (with_reducible refine Kept.drewN ?_ _) | (with_reducible exact hkX0))
    rintro X ⟨BX, hkX⟩
    have ⟨LX, CX, FX⟩ := BX
    have hBX := hkX.below hB hB.size (by simp; omega)
    refine bodyPost_ret (by simp [results, Try.results18, go_sem, CX]; try rfl) rfl ?_
    rw [HS.out]
    exact ⟨none, rfl, rfl, hBX⟩
  have db : decide ((n2 : Int) ≤ k) = false := by simpa using hr2
  obtain ⟨x, rfl⟩ := Int.eq_ofNat_of_zero_le (show 0 ≤ k by omega)
  have hx : x < n2 := by omega
  obtain ⟨b, o, rfl, hl, hc⟩ := (HE.out.later hB).2 (by omega)
  obtain ⟨h1, h2, h3, h4⟩ := hc x hx
  clear hc
  obtain ⟨ea, eb, ek, ec, en⟩ : ∃ ea eb ek ec, ge es x = ⟨ea, eb, ek, ec⟩ := ⟨_, _, _, _, rfl⟩
  rw [en] at h1 h2 h3 h4
  have HF : Hid (Sp.stepS es at_ cs x = if ea ≠ at_ then (16, 0, []) else if ek = 3 ∨ ek = 4 then (if cs = [] ∨ gi cs 0 ≠ ec then (20, 0, []) else (0, eb, cs.tail)) else if ek = 2 then (0, eb, at_ :: cs) else (0, eb, cs)) := by
    show Sp.stepS es at_ cs x = _
    unfold Sp.stepS
    rw [HL.out, if_neg (by omega), Int.toNat_natCast, en]
  clear en
  go_upto_region 4 with fail
  refine wp_named (fun V => ∃ g, W.heap.size = g ∧ Blk V g [.int .i64 ea, .int .i64 eb, .int .i64 ek, .int .i64 ec] ∧ Kept [] W V) ⟨_, rfl, Blk.new _ _ _ _ rfl, (Kept.refl _ _).alloc _⟩ ?_
  rintro V ⟨g, eg, Bg, hkV⟩
  rw [eg]
  have ⟨LG, CG, FG⟩ := Bg
  have BV0 := hkV.blk (by simp) B0
  have ⟨LV0, CV0, FV0⟩ := BV0
  have BV1 := hkV.blk (by simp) B1
  have ⟨LV1, CV1, FV1⟩ := BV1
  have BV2 := hkV.blk (by simp) B2
  have ⟨LV2, CV2, FV2⟩ := BV2
  have g2 : g ≠ b2 := by omega
  have g1 : g ≠ b1 := by omega
  have hBV := hkV.below hB hB.size (by simp)
  clear C0 F0 C1 F1 C2 F2 h1 h2 h3 h4 eg
  have hkX0 : Kept [b2] W V := (Kept.refl _ _).next hkV (by simp)
  by_cases ha : ea = at_
  case neg =>
    have ha' : (ea != at_) = true := by simpa using ha
    have HS := Lib.hid (HF.out.trans (if_pos ha))
    clear ha
    go_wp2_with fail
    try simp only [Exit.inBlock, Exit.then]
    refine post_named (fun X => Blk X b2 [.slice none 0 0, .int .i64 0, .pointer none] ∧ Kept [b2] W X) ⟨?_, ?_⟩ ?_
    · (repeat' first | (with_reducible assumption) | (with_reducible refine Blk.set3 ?_) | (with_reducible exact Blk.n (by assumption) rfl) | (with_reducible refine BlkN.drewN ?_ _) | (with_reducible refine BlkN.alloc ?_ _) | (with_reducible refine Blk.alloc ?_ _))
    · (repeat' first | (with_reducible assumption) | (with_reducible exact Kept.refl _ _) | (with_reducible refine Kept.alloc ?_ _) | (with_reducible refine Kept.call ?_ (by assumption)) | (with_reducible refine Kept.set ?_ _ _ _ (Or.inl (by simp))) | (with_reducible refine Kept.drew ?_) | (with_reducible refine Kept.drewN ?_ _) | (with_reducible exact hkX0))
    rintro X ⟨BX, hkX⟩
    have ⟨LX, CX, FX⟩ := BX
    have hBX := hkX.below hB hB.size (by simp; omega)
    refine bodyPost_ret (by simp [results, Try.results18, go_sem, CX]; try rfl) rfl ?_
    rw [HS.out]
    exact ⟨none, rfl, rfl, hBX⟩
  have ha' : (ea != at_) = false := by simpa using ha
  have HF2 := Lib.hid (HF.out.trans (if_neg (not_not_intro ha)))
  have HA := Lib.hid ha
  clear ha HF
  by_cases hr : ek = 3 ∨ ek = 4
  · have hv : Hid (true = (decide (ek = 3) || decide (ek = 4))) := by
      show true = _
      rcases hr with rfl | rfl <;> rfl
    have t2 : (ek == 2) = false := by simp; omega
    have HF3 := Lib.hid (HF2.out.trans (if_pos hr))
    clear hr HF2
    go_wp2_with fail
    refine (returns_any ea eb ek ec true hv.out _).mono ?_
    rintro e w1 ⟨rfl, hb1⟩
    have hkV1 : Kept [] V w1 := (Kept.refl _ _).call hb1
    have hkW1 : Kept [b2] W w1 := hkX0.next hkV1 (by simp)
    have hB1 := hkV1.below hBV hBV.size (by simp)
    have BX0 := hkV1.blk (by simp) Bg
    have ⟨M0, D0, E0⟩ := BX0
    have BX2 := hkV1.blk (by simp) BV2
    have ⟨M2, D2, E2⟩ := BX2
    clear CG FG CV0 FV0 CV1 FV1 CV2 FV2 hkX0
    have hkX0 : Kept [b2] W w1 := hkW1
    cases cs with
    | nil =>
      obtain rfl : P = none := HP.out
      have HS := Lib.hid (HF3.out.trans (if_pos (Or.inl rfl)))
      go_upto_region 8 with fail
      go_quiet (fail)
      go_wp2_with fail
      try simp only [Exit.inBlock, Exit.then]
      refine post_named (fun X => Blk X b2 [.slice none 0 0, .int .i64 0, .pointer none] ∧ Kept [b2] W X) ⟨?_, ?_⟩ ?_
      · (repeat' first | (with_reducible assumption) | (with_reducible refine Blk.set3 ?_) | (with_reducible exact Blk.n (by assumption) rfl) | (with_reducible refine BlkN.drewN ?_ _) | (with_reducible refine BlkN.alloc ?_ _) | (with_reducible refine Blk.alloc ?_ _))
      · (repeat' first | (with_reducible assumption) | (with_reducible exact Kept.refl _ _) | (with_reducible refine Kept.alloc ?_ _) | (with_reducible refine Kept.call ?_ (by assumption)) | (with_reducible refine Kept.set ?_ _ _ _ (Or.inl (by simp))) | (with_reducible refine Kept.drew ?_) | (with_reducible refine Kept.drewN ?_ _) | (with_reducible exact hkX0))
      rintro X ⟨BX, hkX⟩
      have ⟨LX, CX, FX⟩ := BX
      have hBX := hkX.below hB hB.size (by simp; omega)
      refine bodyPost_ret (by simp [results, Try.results18, go_sem, CX]; try rfl) rfl ?_
      rw [HS.out]
      exact ⟨none, rfl, rfl, hBX⟩
    | cons c r =>
      obtain ⟨pb, Q, rfl, PB0, PQ⟩ := HP.out
      have ⟨PL, PC, PF⟩ := PB0.later hB1
      have HQ := Lib.hid PQ
      have hpb : pb < w.heap.size := PB0.1
      clear PQ
      by_cases hcc : c = ec
      case neg =>
        have hc' : (c != ec) = true := by simpa using hcc
        have HS := Lib.hid (HF3.out.trans (if_pos (Or.inr (show gi (c :: r) 0 ≠ ec from hcc))))
        clear hcc
        go_upto_region 8 with fail
        go_quiet (fail)
        go_wp2_with fail
        try simp only [Exit.inBlock, Exit.then]
        refine post_named (fun X => Blk X b2 [.slice none 0 0, .int .i64 0, .pointer none] ∧ Kept [b2] W X) ⟨?_, ?_⟩ ?_
        · (repeat' first | (with_reducible assumption) | (with_reducible refine Blk.set3 ?_) | (with_reducible exact Blk.n (by assumption) rfl) | (with_reducible refine BlkN.drewN ?_ _) | (with_reducible refine BlkN.alloc ?_ _) | (with_reducible refine Blk.alloc ?_ _))
        · (repeat' first | (with_reducible assumption) | (with_reducible exact Kept.refl _ _) | (with_reducible refine Kept.alloc ?_ _) | (with_reducible refine Kept.call ?_ (by assumption)) | (with_reducible refine Kept.set ?_ _ _ _ (Or.inl (by simp))) | (with_reducible refine Kept.drew ?_) | (with_reducible refine Kept.drewN ?_ _) | (with_reducible exact hkX0))
        rintro X ⟨BX, hkX⟩
        have ⟨LX, CX, FX⟩ := BX
        have hBX := hkX.below hB hB.size (by simp; omega)
        refine bodyPost_ret (by simp [results, Try.results18, go_sem, CX]; try rfl) rfl ?_
        rw [HS.out]
        exact ⟨none, rfl, rfl, hBX⟩
      have hc' : (c != ec) = false := by simpa using hcc
      have HS := Lib.hid (HF3.out.trans (if_neg (fun hh => by rcases hh with hh | hh; cases hh; exact hh (show gi (c :: r) 0 = ec from hcc))))
      clear hcc
      go_upto_region 8 with fail
      go_quiet (fail)
      go_wp2_with fail
      try simp only [Exit.inBlock, Exit.then]
      refine post_named (fun X => Blk X b2 [.slice none 0 0, .int .i64 eb, .pointer Q] ∧ Kept [b2] W X) ⟨?_, ?_⟩ ?_
      · (repeat' first | (with_reducible assumption) | (with_reducible refine Blk.set3 ?_) | (with_reducible exact Blk.n (by assumption) rfl) | (with_reducible refine BlkN.drewN ?_ _) | (with_reducible refine BlkN.alloc ?_ _) | (with_reducible refine Blk.alloc ?_ _))
      · (repeat' first | (with_reducible assumption) | (with_reducible exact Kept.refl _ _) | (with_reducible refine Kept.alloc ?_ _) | (with_reducible refine Kept.call ?_ (by assumption)) | (with_reducible refine Kept.set ?_ _ _ _ (Or.inl (by simp))) | (with_reducible refine Kept.drew ?_) | (with_reducible refine Kept.drewN ?_ _) | (with_reducible exact hkX0))
      rintro X ⟨BX, hkX⟩
      have ⟨LX, CX, FX⟩ := BX
      have hBX := hkX.below hB hB.size (by simp; omega)
      refine bodyPost_ret (by simp [results, Try.results18, go_sem, CX]; try rfl) rfl ?_
      rw [HS.out]
      exact ⟨Q, rfl, Pend.later HQ.out hBX, hBX⟩
  have hv : Hid (false = (decide (ek = 3) || decide (ek = 4))) := by
    show false = _
    have q3 : ek ≠ 3 := fun hh => hr (.inl hh)
    have q4 : ek ≠ 4 := fun hh => hr (.inr hh)
    simp [q3, q4]
  have HF3 := Lib.hid (HF2.out.trans (if_neg hr))
  clear hr HF2
  go_wp2_with fail
  refine (returns_any ea eb ek ec false hv.out _).mono ?_
  rintro e w1 ⟨rfl, hb1⟩
  have hkV1 : Kept [] V w1 := (Kept.refl _ _).call hb1
  have hkW1 : Kept [b2] W w1 := hkX0.next hkV1 (by simp)
  have hB1 := hkV1.below hBV hBV.size (by simp)
  have BX0 := hkV1.blk (by simp) Bg
  have ⟨M0, D0, E0⟩ := BX0
  have BX2 := hkV1.blk (by simp) BV2
  have ⟨M2, D2, E2⟩ := BX2
  clear CG FG CV0 FV0 CV1 FV1 CV2 FV2 hkX0
  have hkX0 : Kept [b2] W w1 := hkW1
  by_cases h2 : ek = 2
  · have t2 : (ek == 2) = true := by simpa using h2
    have HS := Lib.hid (HF3.out.trans (if_pos h2))
    clear h2
    go_upto_region 13 with fail
    refine wp_named (fun V => ∃ g, w1.heap.size = g ∧ Blk V g [.int .i64 ea, .pointer P] ∧ Kept [] w1 V) ⟨_, rfl, Blk.new _ _ _ _ rfl, (Kept.refl _ _).alloc _⟩ ?_
    rintro U ⟨u, eu, Bu, hkU⟩
    rw [eu]
    have hkXU : Kept [b2] W U := hkW1.next hkU (by simp)
    have BU0 := hkU.blk (by simp) BX0
    have ⟨N0, O0, R0⟩ := BU0
    have BU2 := hkU.blk (by simp) BX2
    have ⟨N2, O2, R2⟩ := BU2
    have ub2 : b2 ≠ u := by omega
    clear D0 E0 D2 E2 hkX0 eu
    have hkX0 : Kept [b2] W U := hkXU
    go_wp2_with fail
    try simp only [Exit.inBlock, Exit.then]
    refine post_named (fun X => Blk X b2 [.slice none 0 0, .int .i64 eb, .pointer (some ⟨u, 0, none⟩)] ∧ Kept [b2] W X ∧ Blk X u [.int .i64 ea, .pointer P]) ⟨?_, ?_, ?_⟩ ?_
    · (repeat' first | (with_reducible assumption) | (with_reducible refine Blk.set3 ?_) | (with_reducible exact Blk.n (by assumption) rfl) | (with_reducible refine BlkN.drewN ?_ _) | (with_reducible refine BlkN.alloc ?_ _) | (with_reducible refine Blk.alloc ?_ _))
    · (repeat' first | (with_reducible assumption) | (with_reducible exact Kept.refl _ _) | (with_reducible refine Kept.alloc ?_ _) | (with_reducible refine Kept.call ?_ (by assumption)) | (with_reducible refine Kept.set ?_ _ _ _ (Or.inl (by simp))) | (with_reducible refine Kept.drew ?_) | (with_reducible refine Kept.drewN ?_ _) | (with_reducible exact hkX0))
    · exact (Bu.setOther _ _ _ ub2 |>.setOther _ _ _ ub2 |>.setOther _ _ _ ub2)
    rintro X ⟨BX, hkX, hX⟩
    have ⟨LX, CX, FX⟩ := BX
    have hBX := hkX.below hB hB.size (by simp; omega)
    refine bodyPost_ret (by simp [results, Try.results18, go_sem, CX]; try rfl) rfl ?_
    rw [HS.out]
    exact ⟨some ⟨u, 0, none⟩, rfl, ⟨u, P, rfl, HA.out ▸ hX, HP.out.later hBX⟩, hBX⟩
  · have t2 : (ek == 2) = false := by simpa using h2
    have HS := Lib.hid (HF3.out.trans (if_neg h2))
    clear h2
    go_wp2_with fail
    try simp only [Exit.inBlock, Exit.then]
    refine post_named (fun X => Blk X b2 [.slice none 0 0, .int .i64 eb, .pointer P] ∧ Kept [b2] W X) ⟨?_, ?_⟩ ?_
    · (repeat' first | (with_reducible assumption) | (with_reducible refine Blk.set3 ?_) | (with_reducible exact Blk.n (by assumption) rfl) | (with_reducible refine BlkN.drewN ?_ _) | (with_reducible refine BlkN.alloc ?_ _) | (with_reducible refine Blk.alloc ?_ _))
    · (repeat' first | (with_reducible assumption) | (with_reducible exact Kept.refl _ _) | (with_reducible refine Kept.alloc ?_ _) | (with_reducible refine Kept.call ?_ (by assumption)) | (with_reducible refine Kept.set ?_ _ _ _ (Or.inl (by simp))) | (with_reducible refine Kept.drew ?_) | (with_reducible refine Kept.drewN ?_ _) | (with_reducible exact hkX0))
    rintro X ⟨BX, hkX⟩
    have ⟨LX, CX, FX⟩ := BX
    have hBX := hkX.below hB hB.size (by simp; omega)
    refine bodyPost_ret (by simp [results, Try.results18, go_sem, CX]; try rfl) rfl ?_
    rw [HS.out]
    exact ⟨P, rfl, HP.out.later hBX, hBX⟩
end Go.Proofs.Ytmbihjlflcjlnaa
