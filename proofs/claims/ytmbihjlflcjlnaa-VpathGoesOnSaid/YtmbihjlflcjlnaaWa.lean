/- The contract of the reference's Step. -/
import Derived.Test.YtmbihjlflcjlnaaVe
namespace Go.Df
open Go.RowKit
/-- A change in new blocks only leaves the box x as it is. -/
theorem SX1.fresh {W w w' : World} {x n : Nat} {X : List Nat} (h : SX1 W x n w) (hk : Kept X w w') (hX : ∀ y ∈ X, W.heap.size ≤ y) (hx : x < W.heap.size) : SX1 W x n w' := by
  obtain ⟨C, hC, hb⟩ := h.blk
  rw [← hC]
  exact SX1.of_blk (h.1.next hk (fun y hy => .inr (hX y hy))) (hk.blk (fun hh => by have := hX x hh; omega) hb)
theorem SIn.front {w : World} {A : Option Addr} {n c k : Nat} {xs : List Int} (h : SIn w A n c xs) (hk : k ≤ n) : SIn w A k c (xs.take k) := by
  refine ⟨⟨by rw [List.length_take, h.1.1]; omega, fun h0 => ?_⟩, by have := h.2.1; omega, h.2.2.1, fun ha => by have := h.2.2.2 ha; omega⟩
  obtain ⟨b, o, e, hl, hc⟩ := h.1.2 (by omega)
  refine ⟨b, o, e, hl, fun i hi => ?_⟩
  rw [hc i (by omega), gi_lt (by rw [h.1.1]; omega), gi_lt (by rw [List.length_take, h.1.1]; omega), List.getElem_take]
end Go.Df
namespace Go.Proofs.Ytmbihjlflcjlnaa
open Go.RowKit Go.Df
attribute [local go_sem ↓] Go.wp_at_zero Go.wp_at_succ

set_option maxRecDepth 100000 in
set_option maxHeartbeats 4000000 in
theorem rstep_any (A1 A2 A : Option Addr) (n1 c1 n2 c2 n c : Nat) (mn at_ k : Int) (es : List Sp.Ed) (cs : List Int) (w : World) (he : Eds w A2 n2 es) (hs : n2 ≤ 1000000) (hp : SIn w A n c cs.reverse) (hn : n ≤ 1000000) :
    Calls Try.prog 22 #[.agg #[.slice A1 n1 c1, .slice A2 n2 c2, .int .i64 mn], .agg #[.int .i64 at_, .slice A n c], .int .i64 k] w fun e w' =>
      ∃ A' n' c', e = .returned (.tuple #[.agg #[.int .i64 (Sp.stepS es at_ cs k).2.1, .slice A' n' c'], .int .i64 (Sp.stepS es at_ cs k).1]) ∧ SIn w' A' n' c' (Sp.stepS es at_ cs k).2.2.reverse ∧ (∀ a, A' = some a → (∃ a0, A = some a0 ∧ a.block = a0.block) ∨ w.heap.size ≤ a.block) ∧ Below w.heap.size w w' := by
  obtain ⟨i0, hi, hz0, hz1, hz2⟩ := info_parts int_info
  have mixed : Try.prog.follows Departure.mixedOrders = true := by kernel_rfl
  have HE := Lib.hid he
  have HL := Lib.hid he.1
  have HP := Lib.hid hp
  have HLc : Hid (cs.length = n) := by show _ = _; have := hp.1.1; simpa using this
  have hnc := hp.2.1
  have hcm := hp.2.2.1
  clear he hp
  go_enter Try.func22, Try.ntmps22
  go_upto_region 1 with fail
  refine wp_named (fun W => ∃ b0 b1 b2, w.heap.size = b0 ∧ w.heap.size + 1 = b1 ∧ w.heap.size + 1 + 1 = b2 ∧ Blk W b0 [.slice A1 n1 c1, .slice A2 n2 c2, .int .i64 mn] ∧ Blk W b1 [.int .i64 at_, .slice A n c] ∧ Blk W b2 [.int .i64 0, .slice none 0 0] ∧ Below w.heap.size w W) ⟨_, _, _, rfl, rfl, rfl, ?_, ?_, ?_, ?_⟩ ?_
  · exact ((Blk.new _ _ _ _ (by first | rfl | simp)).alloc _).alloc _
  · exact (Blk.new _ _ _ _ (by first | rfl | simp)).alloc _
  · exact Blk.new _ _ _ _ (by first | rfl | simp)
  · go_grown
  rintro W ⟨b0, b1, b2, e0, e1, e2, B0, B1, B2, hB⟩
  rw [e2, e1, e0]
  have G0 : w.heap.size ≤ b0 := by omega
  have n01 : b0 ≠ b1 := by omega
  have n02 : b0 ≠ b2 := by omega
  have G1 : w.heap.size ≤ b1 := by omega
  have n10 : b1 ≠ b0 := by omega
  have n12 : b1 ≠ b2 := by omega
  have G2 : w.heap.size ≤ b2 := by omega
  have n20 : b2 ≠ b0 := by omega
  have n21 : b2 ≠ b1 := by omega
  clear e0 e1 e2
  have ⟨L0, C0, F0⟩ := B0
  have ⟨L1, C1, F1⟩ := B1
  have ⟨L2, C2, F2⟩ := B2
  by_cases hra : k < 0
  · have d1 : decide (k < 0) = true := by simpa using hra
    have HS : Hid (Sp.stepS es at_ cs k = (4, 0, [])) := by
      show Sp.stepS es at_ cs k = _
      unfold Sp.stepS
      rw [HL.out, if_pos (by omega)]
    have hkX0 : Kept [b2] W W := Kept.refl _ _
    go_wp2_with fail
    try simp only [Exit.inBlock, Exit.then]
    refine post_named (fun X => Blk X b2 [.int .i64 0, .slice none 0 0] ∧ Kept [b2] W X) ⟨?_, ?_⟩ ?_
    · (repeat' first | (with_reducible assumption) | (with_reducible refine Blk.drew ?_) | (with_reducible refine Blk.set2 ?_) | (with_reducible exact Blk.n (by assumption) rfl) | (with_reducible refine BlkN.drewN ?_ _) | (with_reducible refine BlkN.drew ?_) | (with_reducible refine BlkN.alloc ?_ _) | (with_reducible refine Blk.alloc ?_ _))
    · (repeat' first | (with_reducible assumption) | (with_reducible exact Kept.refl _ _) | (with_reducible refine Kept.alloc ?_ _) | (with_reducible refine Kept.call ?_ (by assumption)) | (with_reducible refine Kept.set ?_ _ _ _ (Or.inl (by simp))) | (with_reducible refine Kept.drew ?_) | (with_reducible refine Kept.drewN ?_ _) | (with_reducible exact hkX0))
    rintro X ⟨BX, hkX⟩
    have ⟨LX, CX, FX⟩ := BX
    have hBX := hkX.below hB hB.size (by simp; omega)
    refine bodyPost_ret (by simp [results, Try.results22, go_sem, CX]; try rfl) rfl ?_
    rw [HS.out]
    exact ⟨none, 0, 0, rfl, SIn.nil _, (fun a ha => by cases ha), hBX⟩
  have da : decide (k < 0) = false := by simpa using hra
  by_cases hrb : (n2 : Int) ≤ k
  · have d1 : decide ((n2 : Int) ≤ k) = true := by simpa using hrb
    have HS : Hid (Sp.stepS es at_ cs k = (4, 0, [])) := by
      show Sp.stepS es at_ cs k = _
      unfold Sp.stepS
      rw [HL.out, if_pos (by omega)]
    have hkX0 : Kept [b2] W W := Kept.refl _ _
    go_wp2_with fail
    try simp only [Exit.inBlock, Exit.then]
    refine post_named (fun X => Blk X b2 [.int .i64 0, .slice none 0 0] ∧ Kept [b2] W X) ⟨?_, ?_⟩ ?_
    · (repeat' first | (with_reducible assumption) | (with_reducible refine Blk.drew ?_) | (with_reducible refine Blk.set2 ?_) | (with_reducible exact Blk.n (by assumption) rfl) | (with_reducible refine BlkN.drewN ?_ _) | (with_reducible refine BlkN.drew ?_) | (with_reducible refine BlkN.alloc ?_ _) | (with_reducible refine Blk.alloc ?_ _))
    · (repeat' first | (with_reducible assumption) | (with_reducible exact Kept.refl _ _) | (with_reducible refine Kept.alloc ?_ _) | (with_reducible refine Kept.call ?_ (by assumption)) | (with_reducible refine Kept.set ?_ _ _ _ (Or.inl (by simp))) | (with_reducible refine Kept.drew ?_) | (with_reducible refine Kept.drewN ?_ _) | (with_reducible exact hkX0))
    rintro X ⟨BX, hkX⟩
    have ⟨LX, CX, FX⟩ := BX
    have hBX := hkX.below hB hB.size (by simp; omega)
    refine bodyPost_ret (by simp [results, Try.results22, go_sem, CX]; try rfl) rfl ?_
    rw [HS.out]
    exact ⟨none, 0, 0, rfl, SIn.nil _, (fun a ha => by cases ha), hBX⟩
  have db : decide ((n2 : Int) ≤ k) = false := by simpa using hrb
  obtain ⟨x, rfl⟩ := Int.eq_ofNat_of_zero_le (show 0 ≤ k by omega)
  have hx : x < n2 := by omega
  obtain ⟨b, o, rfl, hl, hc⟩ := (HE.out.later hB).2 (by omega)
  obtain ⟨h1, h2, h3, h4⟩ := hc x hx
  clear hc
  obtain ⟨ea, eb, ek, ec, en⟩ : ∃ ea eb ek ec, ge es x = ⟨ea, eb, ek, ec⟩ := ⟨_, _, _, _, rfl⟩
  rw [en] at h1 h2 h3 h4
  have HF : Hid (Sp.stepS es at_ cs x = if ea ≠ at_ then (16, 0, []) else if ek = 3 ∨ ek = 4 then (if cs = [] ∨ gi cs 0 ≠ ec then (20, 0, []) else (0, eb, cs.tail)) else if ek = 2 then (0, eb, at_ :: cs) else (0, eb, cs)) := by
    show Sp.stepS es at_ cs x = _
    unfold Sp.stepS
    rw [HL.out, if_neg (by omega), Int.toNat_natCast, en]
  clear en
  go_upto_region 4 with fail
  refine wp_named (fun V => ∃ g, W.heap.size = g ∧ Blk V g [.int .i64 ea, .int .i64 eb, .int .i64 ek, .int .i64 ec] ∧ Kept [] W V) ⟨_, rfl, Blk.new _ _ _ _ rfl, (Kept.refl _ _).alloc _⟩ ?_
  rintro V ⟨g, eg, Bg, hkV⟩
  rw [eg]
  have ⟨LG, CG, FG⟩ := Bg
  have BV0 := hkV.blk (by simp) B0
  have ⟨LV0, CV0, FV0⟩ := BV0
  have BV1 := hkV.blk (by simp) B1
  have ⟨LV1, CV1, FV1⟩ := BV1
  have BV2 := hkV.blk (by simp) B2
  have ⟨LV2, CV2, FV2⟩ := BV2
  have g2 : g ≠ b2 := by omega
  have g1 : g ≠ b1 := by omega
  have hBV := hkV.below hB hB.size (by simp)
  have SV := Lib.hid (HP.out.later hBV)
  clear C0 F0 C1 F1 C2 F2 h1 h2 h3 h4 eg
  have hkX0 : Kept [b2] W V := (Kept.refl _ _).next hkV (by simp)
  by_cases ha : ea = at_
  case neg =>
    have ha' : (ea != at_) = true := by simpa using ha
    have HS := Lib.hid (HF.out.trans (if_pos ha))
    clear ha
    go_wp2_with fail
    try simp only [Exit.inBlock, Exit.then]
    refine post_named (fun X => Blk X b2 [.int .i64 0, .slice none 0 0] ∧ Kept [b2] W X) ⟨?_, ?_⟩ ?_
    · (repeat' first | (with_reducible assumption) | (with_reducible refine Blk.drew ?_) | (with_reducible refine Blk.set2 ?_) | (with_reducible exact Blk.n (by assumption) rfl) | (with_reducible refine BlkN.drewN ?_ _) | (with_reducible refine BlkN.drew ?_) | (with_reducible refine BlkN.alloc ?_ _) | (with_reducible refine Blk.alloc ?_ _))
    · (repeat' first | (with_reducible assumption) | (with_reducible exact Kept.refl _ _) | (with_reducible refine Kept.alloc ?_ _) | (with_reducible refine Kept.call ?_ (by assumption)) | (with_reducible refine Kept.set ?_ _ _ _ (Or.inl (by simp))) | (with_reducible refine Kept.drew ?_) | (with_reducible refine Kept.drewN ?_ _) | (with_reducible exact hkX0))
    rintro X ⟨BX, hkX⟩
    have ⟨LX, CX, FX⟩ := BX
    have hBX := hkX.below hB hB.size (by simp; omega)
    refine bodyPost_ret (by simp [results, Try.results22, go_sem, CX]; try rfl) rfl ?_
    rw [HS.out]
    exact ⟨none, 0, 0, rfl, SIn.nil _, (fun a ha => by cases ha), hBX⟩
  have ha' : (ea != at_) = false := by simpa using ha
  have HF2 := Lib.hid (HF.out.trans (if_neg (not_not_intro ha)))
  have HA := Lib.hid ha
  clear ha HF
  by_cases h2 : ek = 2
  · have t2 : (ek == 2) = true := by simpa using h2
    have HS := Lib.hid (HF2.out.trans ((if_neg (by omega)).trans (if_pos h2)))
    clear h2 HF2
    have hinit : SX1 V b2 2 V.drew := SX1.init BV2
    have hrefl : SX1 V b2 2 V := SX1.refl BV2
    go_upto_region 8 with fail
    go_cut [7] (fun s wx => s = .int .i64 0 ∧ ∃ (A6 : Option Addr) (c6 : Nat), Blk wx b2 [.int .i64 eb, .slice A6 (n + 1) c6] ∧ wx.ownsRow V.heap.size 3 1 (.slice A6 (n + 1) c6) (n + 1) ((ea :: cs).reverse.map (Value.int .i64)) ∧ Kept [b2] V wx)
    case first =>
      go_region_held3 (fun w' => SX1 V b2 2 w') (repeat' first | (with_reducible assumption) | (with_reducible exact SX1.init BV2) | (with_reducible exact SX1.refl BV2) | (with_reducible refine SX1.alloc ?_ _) | (with_reducible refine SX1.call ?_ (by assumption)) | (with_reducible refine SX1.set ?_ _ _) | (with_reducible refine SX1.setNew ?_ _ _ _ ?_ ?_) | (with_reducible refine SX1.drew ?_) | (simp; done) | omega | (simp; omega))
        (first | (refine step_append_rd _ rfl (.tmp 37) (.tmp 39) 26 rfl V.heap.size 3 i0 (.int .i64 0) 1 8 Try.underlying26 hi hz0 hz1 hz2 rfl (by decide) (.slice (some ⟨_, 0, none⟩) 0 0) 0 [] rfl (by first | exact own_new0 _ _ _ _ (by first | rfl | simp) (by first | (simp; done) | (simp; omega)) | exact own_alloc (own_new0 _ _ _ _ (by first | rfl | simp) (by first | (simp; done) | (simp; omega))) _) A n c (cs.reverse.map (Value.int .i64)) rfl ((Rd.ints SV.out.1).kept (by (repeat' first | (with_reducible assumption) | (with_reducible exact Kept.refl _ _) | (with_reducible refine Kept.alloc ?_ _) | (with_reducible refine Kept.call ?_ (by assumption)) | (with_reducible refine Kept.set ?_ _ _ _ (Or.inr ?_)) | (with_reducible refine Kept.drew ?_) | (simp; done) | omega | (simp; omega)))) SV.out.2.2.2 (ints_one _) n (by omega) (cs.reverse.map (Value.int .i64)) rfl (by unfold maxLen; omega) (by omega) (by first | (simp; done) | (simp; omega) | omega) ?_; intro A5 c5 w5 hown5 hk5 hat5; have hs5 : SX1 V b2 2 w5 := SX1.fresh (by (repeat' first | (with_reducible assumption) | (with_reducible exact SX1.init BV2) | (with_reducible exact SX1.refl BV2) | (with_reducible refine SX1.alloc ?_ _) | (with_reducible refine SX1.call ?_ (by assumption)) | (with_reducible refine SX1.set ?_ _ _) | (with_reducible refine SX1.setNew ?_ _ _ _ ?_ ?_) | (with_reducible refine SX1.drew ?_) | (simp; done) | omega | (simp; omega))) hk5 (by simp [Value.ownBlock]) LV2; have hkk5 : Kept [] V w5 := kept_fresh (by (repeat' first | (with_reducible assumption) | (with_reducible exact Kept.refl _ _) | (with_reducible refine Kept.alloc ?_ _) | (with_reducible refine Kept.call ?_ (by assumption)) | (with_reducible refine Kept.set ?_ _ _ _ (Or.inr ?_)) | (with_reducible refine Kept.drew ?_) | (simp; done) | omega | (simp; omega))) hk5 (by simp [Value.ownBlock]); have ho5 := own_rng hown5) | (refine step_append_rd _ rfl (.tmp 40) (.tmp 43) 26 rfl V.heap.size 3 i0 (.int .i64 0) 1 8 Try.underlying26 hi hz0 hz1 hz2 rfl (by decide) (.slice A5 n c5) n (cs.reverse.map (Value.int .i64)) rfl (by first | exact hown5 | exact own_alloc hown5 _) _ 1 1 [.int .i64 ea] rfl (by (repeat' first | (with_reducible refine Rd.drew ?_) | (with_reducible refine Rd.keptX ?_ hk5 ?_) | ((with_reducible refine Rd.new1 _ _ _ _ ?_); simp; done) | (with_reducible refine Rd.alloc ?_ _) | (simp [Value.ownBlock]; done))) (fun h => by cases h) (by intro u hu; simp at hu; subst hu; rfl) (n + 1) rfl ((ea :: cs).reverse.map (Value.int .i64)) (by simp) (by unfold maxLen; omega) (by omega) (by have := hkk5.size; first | (simp; done) | (simp; omega) | omega) ?_; intro A6 c6 w6 hown6 hk6 hat6; have hs6 : SX1 V b2 2 w6 := SX1.fresh (by (repeat' first | (with_reducible assumption) | (with_reducible exact SX1.init BV2) | (with_reducible exact SX1.refl BV2) | (with_reducible refine SX1.alloc ?_ _) | (with_reducible refine SX1.call ?_ (by assumption)) | (with_reducible refine SX1.set ?_ _ _) | (with_reducible refine SX1.setNew ?_ _ _ _ ?_ ?_) | (with_reducible refine SX1.drew ?_) | (simp; done) | omega | (simp; omega))) hk6 (fun y hy => (ho5.out y (by simpa using hy)).1) LV2; have hkk6 : Kept [] V w6 := kept_fresh (by (repeat' first | (with_reducible assumption) | (with_reducible exact Kept.refl _ _) | (with_reducible refine Kept.alloc ?_ _) | (with_reducible refine Kept.call ?_ (by assumption)) | (with_reducible refine Kept.set ?_ _ _ _ (Or.inr ?_)) | (with_reducible refine Kept.drew ?_) | (simp; done) | omega | (simp; omega))) hk6 (fun y hy => (ho5.out y (by simpa using hy)).1); have ho6 := own_rng hown6; have hn6 : BlkN w6 b2 2 := hs6.blk))
      all_goals
        go_wp2_with fail
        go_meet
        refine ⟨rfl, A6, c6, ?_, ?_, ?_⟩
        · (repeat' first | (with_reducible assumption) | (with_reducible refine Blk.drew ?_) | (with_reducible refine Blk.set2 ?_) | (with_reducible exact Blk.n (by assumption) rfl) | (with_reducible refine BlkN.drewN ?_ _) | (with_reducible refine BlkN.drew ?_) | (with_reducible refine BlkN.alloc ?_ _) | (with_reducible refine Blk.alloc ?_ _))
        · repeat' first | (with_reducible assumption) | (with_reducible refine own_alloc ?_ _) | (with_reducible refine own_drew ?_) | (with_reducible refine own_set ?_ _ _ _ ?_) | (intro g hg; have := (ho6.out g hg); omega)
        · have hkz : Kept [b2] V w6 := (Kept.refl _ _).next hkk6 (by simp)
          (repeat' first | (with_reducible assumption) | (with_reducible exact Kept.refl _ _) | (with_reducible refine Kept.alloc ?_ _) | (with_reducible refine Kept.call ?_ (by assumption)) | (with_reducible refine Kept.set ?_ _ _ _ (Or.inl (by simp))) | (with_reducible refine Kept.drew ?_) | (with_reducible refine Kept.drewN ?_ _) | (with_reducible exact hkX0))
    case rest =>
      obtain ⟨rfl, A6, c6, BX6, own6, hk6⟩ := hcut
      obtain ⟨A', c', hv', hin, hge⟩ := SIn.of_own own6
      injection hv' with e1 e2 e3
      subst e1
      subst e3
      have HIN := Lib.hid hin
      have HGE := Lib.hid hge
      have hkW6 : Kept [b2] W wc := hkX0.next hk6 (by simp)
      clear hin own6 hge
      go_wp2_with fail
      try simp only [Exit.inBlock, Exit.then]
      have ⟨LX, CX, FX⟩ := BX6
      have hBX := hkW6.below hB hB.size (by simp; omega)
      refine bodyPost_ret (by simp [results, Try.results22, go_sem, CX]; try rfl) rfl ?_
      rw [HS.out]
      refine ⟨A6, n + 1, c6, rfl, ?_, (fun a ha => .inr (by have := (HGE.out a ha).1; have := hBV.size; omega)), hBX⟩
      have := HIN.out
      rw [show ea = at_ from HA.out] at this
      exact this
  have t2 : (ek == 2) = false := by simpa using h2
  have HF3 : Hid (Sp.stepS es at_ cs x = if ek = 3 ∨ ek = 4 then (if cs = [] ∨ gi cs 0 ≠ ec then (20, 0, []) else (0, eb, cs.tail)) else (0, eb, cs)) := by
    show _ = _
    rw [HF2.out, if_neg h2]
  clear h2 HF2
  by_cases hr : ek = 3 ∨ ek = 4
  case neg =>
    have t3 : (ek == 3) = false := by simp; omega
    have t4 : (ek == 4) = false := by simp; omega
    have HS := Lib.hid (HF3.out.trans (if_neg hr))
    clear hr HF3
    go_wp2_with fail
    try simp only [Exit.inBlock, Exit.then]
    refine post_named (fun X => Blk X b2 [.int .i64 eb, .slice A n c] ∧ Kept [b2] W X) ⟨?_, ?_⟩ ?_
    · (repeat' first | (with_reducible assumption) | (with_reducible refine Blk.drew ?_) | (with_reducible refine Blk.set2 ?_) | (with_reducible exact Blk.n (by assumption) rfl) | (with_reducible refine BlkN.drewN ?_ _) | (with_reducible refine BlkN.drew ?_) | (with_reducible refine BlkN.alloc ?_ _) | (with_reducible refine Blk.alloc ?_ _))
    · (repeat' first | (with_reducible assumption) | (with_reducible exact Kept.refl _ _) | (with_reducible refine Kept.alloc ?_ _) | (with_reducible refine Kept.call ?_ (by assumption)) | (with_reducible refine Kept.set ?_ _ _ _ (Or.inl (by simp))) | (with_reducible refine Kept.drew ?_) | (with_reducible refine Kept.drewN ?_ _) | (with_reducible exact hkX0))
    rintro X ⟨BX, hkX⟩
    have ⟨LX, CX, FX⟩ := BX
    have hBX := hkX.below hB hB.size (by simp; omega)
    refine bodyPost_ret (by simp [results, Try.results22, go_sem, CX]; try rfl) rfl ?_
    rw [HS.out]
    exact ⟨A, n, c, rfl, HP.out.later hBX, (fun a ha => .inl ⟨a, ha, rfl⟩), hBX⟩
  have HF4 := Lib.hid (HF3.out.trans (if_pos hr))
  have hr' : (ek == 3) = true ∨ ((ek == 3) = false ∧ (ek == 4) = true) := by
    rcases hr with rfl | rfl
    · exact .inl rfl
    · exact .inr ⟨rfl, rfl⟩
  clear hr HF3
  by_cases hn0 : n = 0
  · have z1 : ((n : Int) == 0) = true := by simp; omega
    have z2 : (n == 0) = true := by simp; omega
    have HS := Lib.hid (HF4.out.trans (if_pos (Or.inl (List.length_eq_zero_iff.mp (by rw [HLc.out]; exact hn0)))))
    have HN0 := Lib.hid hn0
    clear hn0
    rcases hr' with t3 | ⟨t3, t4⟩
    all_goals
      go_upto_region 12 with fail
      go_quiet (fail)
      go_wp2_with fail
      try simp only [Exit.inBlock, Exit.then]
      refine post_named (fun X => Blk X b2 [.int .i64 0, .slice none 0 0] ∧ Kept [b2] W X) ⟨?_, ?_⟩ ?_
      · (repeat' first | (with_reducible assumption) | (with_reducible refine Blk.drew ?_) | (with_reducible refine Blk.set2 ?_) | (with_reducible exact Blk.n (by assumption) rfl) | (with_reducible refine BlkN.drewN ?_ _) | (with_reducible refine BlkN.drew ?_) | (with_reducible refine BlkN.alloc ?_ _) | (with_reducible refine Blk.alloc ?_ _))
      · (repeat' first | (with_reducible assumption) | (with_reducible exact Kept.refl _ _) | (with_reducible refine Kept.alloc ?_ _) | (with_reducible refine Kept.call ?_ (by assumption)) | (with_reducible refine Kept.set ?_ _ _ _ (Or.inl (by simp))) | (with_reducible refine Kept.drew ?_) | (with_reducible refine Kept.drewN ?_ _) | (with_reducible exact hkX0))
      rintro X ⟨BX, hkX⟩
      have ⟨LX, CX, FX⟩ := BX
      have hBX := hkX.below hB hB.size (by simp; omega)
      refine bodyPost_ret (by simp [results, Try.results22, go_sem, CX]; try rfl) rfl ?_
      rw [HS.out]
      exact ⟨none, 0, 0, rfl, SIn.nil _, (fun a ha => by cases ha), hBX⟩
  obtain ⟨c0, r, hcs⟩ : ∃ c0 r, cs = c0 :: r := by
    cases cs with
    | nil => exact absurd HLc.out (by simp; omega)
    | cons c0 r => exact ⟨c0, r, rfl⟩
  have HCS := Lib.hid hcs
  clear hcs
  obtain ⟨sb, so, rfl, hsl, hsc⟩ := SV.out.1.2 (by omega)
  have sc := hsc (n - 1) (by omega)
  rw [show gi cs.reverse (n - 1) = c0 by rw [gi_rev (by rw [HLc.out]; omega), HLc.out, show n - 1 - (n - 1) = 0 by omega, HCS.out]; rfl] at sc
  have z1 : ((n : Int) == 0) = false := by simp; omega
  have z2 : (n == 0) = false := by simp; omega
  have z3 : IntKind.i64.wrap ((n : Int) - 1) = (n : Int) - 1 := IntWalk.i64_in _ (by omega)
  have z4 : (0 : Int) ≤ (n : Int) - 1 := by omega
  have z5 : ((n : Int) - 1).toNat = n - 1 := by omega
  have z6 : (n : Int) - 1 < (n : Int) := by omega
  have z7 : 1 ≤ n := by omega
  have z8 : (1 : Int) ≤ (n : Int) := by omega
  have z9 : (n : Int) - 1 ≤ (c : Int) := by omega
  have z10 : n - 1 < n := by omega
  have z11 : (n : Int) ≤ (c : Int) + 1 := by omega
  have z12 : n ≤ c + 1 := by omega
  have z14 : n ≠ 0 := by omega
  have z16 : 0 < n := by omega
  clear hsc hn0
  by_cases hcc : c0 = ec
  case neg =>
    have y1 : (c0 != ec) = true := by simpa using hcc
    have HS := Lib.hid (HF4.out.trans (if_pos (Or.inr (by rw [HCS.out]; exact hcc))))
    clear hcc
    rcases hr' with t3 | ⟨t3, t4⟩
    all_goals
      go_upto_region 12 with fail
      go_quiet (fail)
      go_wp2_with fail
      try simp only [Exit.inBlock, Exit.then]
      refine post_named (fun X => Blk X b2 [.int .i64 0, .slice none 0 0] ∧ Kept [b2] W X) ⟨?_, ?_⟩ ?_
      · (repeat' first | (with_reducible assumption) | (with_reducible refine Blk.drew ?_) | (with_reducible refine Blk.set2 ?_) | (with_reducible exact Blk.n (by assumption) rfl) | (with_reducible refine BlkN.drewN ?_ _) | (with_reducible refine BlkN.drew ?_) | (with_reducible refine BlkN.alloc ?_ _) | (with_reducible refine Blk.alloc ?_ _))
      · (repeat' first | (with_reducible assumption) | (with_reducible exact Kept.refl _ _) | (with_reducible refine Kept.alloc ?_ _) | (with_reducible refine Kept.call ?_ (by assumption)) | (with_reducible refine Kept.set ?_ _ _ _ (Or.inl (by simp))) | (with_reducible refine Kept.drew ?_) | (with_reducible refine Kept.drewN ?_ _) | (with_reducible exact hkX0))
      rintro X ⟨BX, hkX⟩
      have ⟨LX, CX, FX⟩ := BX
      have hBX := hkX.below hB hB.size (by simp; omega)
      refine bodyPost_ret (by simp [results, Try.results22, go_sem, CX]; try rfl) rfl ?_
      rw [HS.out]
      exact ⟨none, 0, 0, rfl, SIn.nil _, (fun a ha => by cases ha), hBX⟩
  have y1 : (c0 != ec) = false := by simpa using hcc
  have HS : Hid (Sp.stepS es at_ cs x = (0, eb, r)) := by
    show _ = _
    rw [HF4.out, HCS.out, if_neg (fun hh => by rcases hh with hh | hh; cases hh; exact hh (show gi (c0 :: r) 0 = ec from hcc))]
    rfl
  have HT : Hid (cs.reverse.take (n - 1) = r.reverse) := by
    show _ = _
    have := HLc.out
    rw [HCS.out] at this ⊢
    simp only [List.length_cons] at this
    rw [List.reverse_cons, List.take_append_of_le_length (by simp; omega), List.take_of_length_le (by simp; omega)]
  clear hcc
  rcases hr' with t3 | ⟨t3, t4⟩
  all_goals
    go_upto_region 12 with fail
    go_quiet (fail)
    go_upto_region 14 with fail
    refine wp_named (fun U => Kept [] V U) ((Kept.refl _ _).drewN _) ?_
    intro U hkU
    have hkXU : Kept [b2] W U := hkX0.next hkU (by simp)
    have ⟨p0, p1, p2⟩ := hkU.blk (by simp) Bg
    have ⟨p3, p4, p5⟩ := hkU.blk (by simp) BV1
    have BU2 := hkU.blk (by simp) BV2
    have ⟨p6, p7, p8⟩ := BU2
    clear CG FG CV0 FV0 CV1 FV1 CV2 FV2 sc
    go_region_o
    go_wp2_with fail
    try simp only [Exit.inBlock, Exit.then]
    refine post_named (fun X => Blk X b2 [.int .i64 eb, .slice (some ⟨sb, so, none⟩) (n - 1) c] ∧ Kept [b2] W X) ⟨?_, ?_⟩ ?_
    · (repeat' first | (with_reducible assumption) | (with_reducible refine Blk.drew ?_) | (with_reducible refine Blk.set2 ?_) | (with_reducible exact Blk.n (by assumption) rfl) | (with_reducible refine BlkN.drewN ?_ _) | (with_reducible refine BlkN.drew ?_) | (with_reducible refine BlkN.alloc ?_ _) | (with_reducible refine Blk.alloc ?_ _))
    · (repeat' first | (with_reducible assumption) | (with_reducible exact Kept.refl _ _) | (with_reducible refine Kept.alloc ?_ _) | (with_reducible refine Kept.call ?_ (by assumption)) | (with_reducible refine Kept.set ?_ _ _ _ (Or.inl (by simp))) | (with_reducible refine Kept.drew ?_) | (with_reducible refine Kept.drewN ?_ _) | (with_reducible exact hkX0))
    rintro X ⟨BX, hkX⟩
    have ⟨LX, CX, FX⟩ := BX
    have hBX := hkX.below hB hB.size (by simp; omega)
    refine bodyPost_ret (by simp [results, Try.results22, go_sem, CX]; try rfl) rfl ?_
    rw [HS.out]
    refine ⟨some ⟨sb, so, none⟩, n - 1, c, rfl, ?_, (fun a ha => .inl (by first | exact ⟨a, ha, rfl⟩ | (cases ha; rfl) | (cases ha; simp))), hBX⟩
    have := (HP.out.later hBX).front (show n - 1 ≤ n by omega)
    rw [HT.out] at this
    exact this
end Go.Proofs.Ytmbihjlflcjlnaa
