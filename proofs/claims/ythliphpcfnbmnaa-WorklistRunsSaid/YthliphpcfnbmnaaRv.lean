/- The contract of the reference's Push at a new item. -/
import Derived.Test.YthliphpcfnbmnaaPq
import Derived.Deep.CutBlock
namespace Go.Df
open Go.RowKit
theorem kept_fresh {X : List Nat} {W w w' : World} (h : Kept [] W w) (h' : Kept X w w') (hx : ∀ x ∈ X, W.heap.size ≤ x) : Kept [] W w' :=
  ⟨h'.os.trans h.os, h'.tape.trans h.tape, h'.output.trans h.output, Nat.le_trans h.size h'.size, fun k hk _ => (h'.block k (Nat.lt_of_lt_of_le hk h.size) (fun hm => by have := hx k hm; omega)).trans (h.block k hk (by simp))⟩
theorem Rd.front {w : World} {A : Option Addr} {n k : Nat} {cs : List Value} (h : Rd w 1 A n cs) (hk : k ≤ n) : Rd w 1 A k (cs.take k) := by
  have hl := h.1
  refine ⟨by simp; omega, fun h0 => ?_⟩
  obtain ⟨b, o, e, hb, hc⟩ := h.2 (by omega)
  exact ⟨b, o, e, hb, fun j hj => by rw [hc j (by omega), List.getElem?_take_of_lt (by omega)]⟩
theorem Rd.cut {w : World} {A : Option Addr} {n c k : Nat} {cs : List Value} (h : Rd w 1 A n cs) (hk : k ≤ n) (hc : n ≤ c) : Rd w 1 (if c = k then A else A.map (·.add k)) (n - k) (cs.drop k) := by
  have hl := h.1
  refine ⟨by simp; omega, fun h0 => ?_⟩
  obtain ⟨b, o, e, hb, hcell⟩ := h.2 (by omega)
  rw [if_neg (by omega), e]
  exact ⟨b, o + k, by simp [add_lit], hb, fun j hj => by rw [List.getElem?_drop, ← hcell (k + j) (by omega), Nat.add_assoc]⟩
theorem Rd.drewN {w : World} {k n : Nat} {A : Option Addr} {cs : List Value} (h : Rd w k A n cs) (q : Nat) : Rd (w.drewN q) k A n cs := h
end Go.Df
namespace Go.Proofs.Ythliphpcfnbmnaa
open Go.RowKit Go.Df
attribute [local go_sem ↓] Go.wp_at_zero Go.wp_at_succ

set_option maxHeartbeats 1000000 in
theorem rpush_new (A1 A2 : Option Addr) (n1 c1 n2 c2 : Nat) (r l : List Int) (x : Int) (w : World) (hr : SIn w A1 n1 c1 r) (hl : SIn w A2 n2 c2 l) (h : Wl.perr r l x = 0) (hm : x ∉ l) :
    Calls Try.prog 19 #[.agg #[.slice A1 n1 c1, .slice A2 n2 c2], .int .i64 x] w (GetQE0 w r (Wl.ins l (Wl.place r l x) x) 0) := by
  obtain ⟨i0, hi, hz0, hz1, hz2⟩ := info_parts int_info
  obtain ⟨hz, ha, s1, s2, s3⟩ := Wl.perr_ok h
  have s4 := s3 hm
  have HV := Lib.hid (Wl.valid_of_chk hz)
  have HAL : Hid (∀ j, j < n2 → Wl.allowed n1 (gi l j) = true) := by
    intro j hj; rw [← hr.1.1]; exact Wl.chk_allowed hz (by rw [hl.1.1]; exact hj)
  rw [hr.1.1] at ha s1
  rw [hl.1.1] at s2 s4
  have hcap := hl.2.1
  have HR := Lib.hid hr
  have HL := Lib.hid hl
  have Hr := Lib.hid hr.1.1
  have Hl := Lib.hid hl.1.1
  have HZ := Lib.hid hz
  have HA := Lib.hid ha
  have HM := Lib.hid hm
  have HI : Hid (Wl.index l x = -1) := Lib.hid (by simp [Wl.index, hm])
  have hd : decide ((8192 : Int) ≤ n2) = false := by simp; omega
  have hlc := hl.2.2.1
  clear hr hl hz ha h hm s3
  go_enter Try.func19, Try.ntmps19
  go_upto_region 1 with fail
  refine wp_named (fun W => ∃ b0 b1, w.heap.size = b0 ∧ w.heap.size + 1 = b1 ∧ Blk W b0 [.slice A1 n1 c1, .slice A2 n2 c2] ∧ Blk W b1 [.slice none 0 0, .slice none 0 0] ∧ Below w.heap.size w W) ⟨_, _, rfl, rfl, ?_, ?_, ?_⟩ ?_
  · exact (Blk.new _ _ _ _ (by first | rfl | simp)).alloc _
  · exact Blk.new _ _ _ _ (by first | rfl | simp)
  · go_grown
  rintro W ⟨b0, b1, e0, e1, B0, B1, hB⟩
  rw [e1, e0]
  have G0 : w.heap.size ≤ b0 := by omega
  have n01 : b0 ≠ b1 := by omega
  have G1 : w.heap.size ≤ b1 := by omega
  have n10 : b1 ≠ b0 := by omega
  clear e0 e1
  have ⟨L0, C0, F0⟩ := B0
  have ⟨L1, C1, F1⟩ := B1
  go_wp2_with fail
  refine (rcheck_any _ _ _ _ _ _ r l _ (HR.out.1.later hB) (HL.out.1.later hB) hcap).mono ?_
  rintro e w1 ⟨rfl, hb1⟩
  have hk1 : Kept [] W w1 := Kept.call (Kept.refl _ _) hb1
  have ⟨hc1, hf1, hg1⟩ := hk1.rules
  rw [HZ.out]
  go_wp2_with fail
  refine (item_any _ _ _ _ _).mono ?_
  rintro e w2 ⟨rfl, hb2⟩
  have hk2 : Kept [] W w2 := Kept.call hk1 hb2
  have ⟨hc2, hf2, hg2⟩ := hk2.rules
  rw [HA.out]
  go_wp2_with fail
  refine (at_any _ _ _ l _ _ ((HL.out.1.later hB).kept hk2) (by omega)).mono ?_
  rintro e w3 ⟨rfl, rfl⟩
  rw [HI.out]
  have BW0 := hk2.blk (by simp) B0
  have BW1 := hk2.blk (by simp) B1
  have HRV := Lib.hid ((HR.out.later hB).kept hk2)
  have HLV := Lib.hid ((HL.out.later hB).kept hk2)
  have hBV := hk2.below hB hB.size (by simp)
  clear hc1 hf1 hg1 hc2 hf2 hg2 B0 B1 L0 C0 F0 L1 C1 F1 hk1 hb1 hb2
  have ⟨L0, C0, F0⟩ := BW0
  have ⟨L1, C1, F1⟩ := BW1
  go_upto_block 0 with fail
  go_cut [7] (fun k wx => ∃ q, k = .int .i64 (Wl.place r l x : Nat) ∧ wx = w2.drewN q)
  case first =>
    go_wp2_with fail
    go_loopw [7] (fun p wr => ∃ k q : Nat, k ≤ n2 ∧ p = .int .i64 k ∧ wr = w2.drewN q ∧ Hid (∀ j, j < k → r.length = 0 ∨ Wl.before r (gi l j) x = true)) (fun p _ => n2 - (intOf p).toNat)
    case atStart => exact ⟨0, 0, Nat.zero_le _, rfl, rfl, Lib.hid (fun j hj => absurd hj (by omega))⟩
    case round =>
      obtain ⟨k, q, hk, rfl, hwr, hj⟩ := hrel
      have BR0 : Blk wr b0 [.slice A1 n1 c1, .slice A2 n2 c2] := by rw [hwr]; exact BW0
      have HR1 : Hid (SIn wr A1 n1 c1 r) := by rw [hwr]; exact HRV.out
      have HR2 : Hid (SIn wr A2 n2 c2 l) := by rw [hwr]; exact HLV.out
      have HW := Lib.hid hwr
      clear hwr L0 C0 F0 L1 C1 F1
      have ⟨L0, C0, F0⟩ := BR0
      by_cases hkn : k < n2
      · have k1 : decide (k < n2) = true := by simp; omega
        have k2 : decide ((k : Int) < (n2 : Int)) = true := by simp; omega
        by_cases hz : n1 = 0
        · have z1 : ((n1 : Int) == 0) = true := by simp; omega
          have hj' : Hid (∀ j, j < k + 1 → r.length = 0 ∨ Wl.before r (gi l j) x = true) := fun j _ => .inl (by rw [Hr.out]; exact hz)
          clear hz
          go_wp2_with fail
          go_quiet (fail)
          go_wp2_with fail
          exact ⟨⟨k + 1, q + nq, by omega, by go_num, by rw [HW.out]; exact World.drewN_drewN _ _ _, hj'⟩, by simp [intOf]; omega⟩
        · have z1 : ((n1 : Int) == 0) = false := by simp; omega
          have z3 : 0 < n1 := by omega
          have hal := HAL.out k hkn
          obtain ⟨p0, p1, p2⟩ := Wl.allowed_lt hal s1
          obtain ⟨q0, q1, q2⟩ := Wl.allowed_lt HA.out s1
          have p3 := p2 z3
          have q3 := q2 z3
          obtain ⟨b4, o4, e4, l4, c4'⟩ := HR2.out.1.at_ (by omega)
          subst e4
          have hcell : wr.cell? ⟨b4, o4 + k, none⟩ = some (.int .i64 (gi l k)) := c4' k hkn
          clear hz hal p2 q2 c4'
          by_cases hbf : Wl.before r (gi l k) x = true
          · have hj' : Hid (∀ j, j < k + 1 → r.length = 0 ∨ Wl.before r (gi l j) x = true) := fun j hj1 => by
              rcases Nat.lt_or_ge j k with h2 | h2
              · exact hj.out j h2
              · obtain rfl : j = k := by omega
                exact .inr hbf
            go_wp2_with fail
            go_quiet ((go_at_call 24; exact Calls.quiet_of (rbefore_q _ _ _ r _ _ _ (show Ints (World.drewN wr _) A1 n1 r from HR1.out.1) (by omega) (by omega) (by omega) (by omega))))
            go_wp2_with fail
            exact ⟨⟨k + 1, q + nq, by omega, by go_num, by rw [HW.out]; exact World.drewN_drewN _ _ _, hj'⟩, by simp [intOf]; omega⟩
          · rw [Bool.not_eq_true] at hbf
            have hpl : Hid (k = Wl.place r l x) := Wl.place_unique HV.out HM.out (by rw [Hl.out]; omega) hj.out (.inr ⟨by rw [Hr.out]; exact z3, hbf⟩)
            go_wp2_with fail
            go_quiet ((go_at_call 24; exact Calls.quiet_of (rbefore_q _ _ _ r _ _ _ (show Ints (World.drewN wr _) A1 n1 r from HR1.out.1) (by omega) (by omega) (by omega) (by omega))))
            go_wp2_with fail
            go_meet
            exact ⟨q + nq, by rw [← hpl.out], by rw [HW.out]; exact World.drewN_drewN _ _ _⟩
      · have k1 : decide (k < n2) = false := by simp; omega
        have k2 : decide ((k : Int) < (n2 : Int)) = false := by simp; omega
        have hpl : Hid (k = Wl.place r l x) := Wl.place_unique HV.out HM.out (by rw [Hl.out]; omega) hj.out (.inl (by rw [Hl.out]; omega))
        go_wp2_with fail
        go_quiet (fail)
        go_wp2_with fail
        go_meet
        exact ⟨q + nq, by rw [← hpl.out], by rw [HW.out]; exact World.drewN_drewN _ _ _⟩
  case rest =>
    obtain ⟨q, rfl, hwc⟩ := hcut
    have BR0 : Blk wc b0 [.slice A1 n1 c1, .slice A2 n2 c2] := by rw [hwc]; exact BW0
    have BR1 : Blk wc b1 [.slice none 0 0, .slice none 0 0] := by rw [hwc]; exact BW1
    have HR1 : Hid (SIn wc A1 n1 c1 r) := by rw [hwc]; exact HRV.out
    have HRd : Hid (Rd wc 1 A2 n2 (l.map (Value.int .i64))) := by rw [hwc]; exact Rd.ints HLV.out.1
    have hkc : Kept [] W wc := by rw [hwc]; exact hk2.drewN q
    have HNil : Hid (A2 = none → n2 = 0) := HLV.out.2.2.2
    clear hwc hk2 L0 C0 F0 L1 C1 F1
    have hple : Wl.place r l x ≤ n2 := by rw [← Hl.out]; exact Wl.place_le r l x
    have HP : Hid ((l.take (Wl.place r l x)).map (Value.int .i64) ++ [.int .i64 x] ++ (l.drop (Wl.place r l x)).map (Value.int .i64) = (Wl.ins l (Wl.place r l x) x).map (Value.int .i64)) := by
      show _ = _
      simp [Wl.ins]
    generalize Wl.place r l x = k at *
    have ⟨L0, C0, F0⟩ := BR0
    have ⟨L1, C1, F1⟩ := BR1
    have kn : (0 : Int) ≤ (k : Int) := by omega
    have kc : (k : Int) ≤ (c2 : Int) := by omega
    have kl : (k : Int) ≤ (n2 : Int) := by omega
    by_cases hck : k = c2
    · obtain rfl : n2 = k := by omega
      obtain rfl : n2 = c2 := hck
      have hp0 : l.drop n2 = [] := List.drop_eq_nil_of_le (by rw [Hl.out]; exact Nat.le_refl _)
      have HP0 : Hid ((l.take n2).map (Value.int .i64) ++ [.int .i64 x] ++ [] = (Wl.ins l n2 x).map (Value.int .i64)) := by
        have := HP.out
        rw [hp0] at this
        exact this
      clear hp0 hple kn kc kl hcap
      have kn : (0 : Int) ≤ (n2 : Int) := by omega
      have hple : n2 ≤ n2 := Nat.le_refl _
      go_upto_region 13 with fail
      go_cut [8] (fun s wx => ∃ (A3 : Option Addr) (c3 : Nat), s = .slice A3 (n2 + 1) c3 ∧ wx.ownsRow wc.heap.size 3 1 (.slice A3 (n2 + 1) c3) (n2 + 1) ((Wl.ins l n2 x).map (Value.int .i64)) ∧ Kept [] wc wx)
      case first =>
        go_region_held3 (fun w' => SX0 wc w') (repeat' first | (with_reducible assumption) | (with_reducible exact SX0.init _) | (with_reducible exact SX0.refl _) | (with_reducible refine SX0.alloc ?_ _) | (with_reducible refine SX0.call ?_ (by assumption)) | (with_reducible refine SX0.set ?_ _ _ _ ?_) | (with_reducible refine SX0.drew ?_) | (simp; done) | omega | (simp; omega))
          (first | (refine step_append_rd _ rfl (.tmp 56) (.tmp 60) 22 rfl wc.heap.size 3 i0 (.int .i64 0) 1 8 Try.underlying22 hi hz0 hz1 hz2 rfl (by decide) (.slice (some ⟨_, 0, none⟩) 0 0) 0 [] rfl (by first | exact own_new0 _ _ _ _ (by first | rfl | simp) (by first | (simp; done) | (simp; omega)) | exact own_alloc (own_new0 _ _ _ _ (by first | rfl | simp) (by first | (simp; done) | (simp; omega))) _) A2 n2 n2 ((l.take n2).map (Value.int .i64)) rfl (by rw [List.map_take]; exact (HRd.out.front hple).kept (by (repeat' first | (with_reducible assumption) | (with_reducible exact Kept.refl _ _) | (with_reducible refine Kept.alloc ?_ _) | (with_reducible refine Kept.call ?_ (by assumption)) | (with_reducible refine Kept.set ?_ _ _ _ (Or.inr ?_)) | (with_reducible refine Kept.drew ?_) | (simp; done) | omega | (simp; omega)))) (fun h => by have := HNil.out h; omega) (ints_one _) n2 (by omega) ((l.take n2).map (Value.int .i64)) rfl (by unfold maxLen; omega) (by omega) (by have := hkc.size; first | (simp; done) | (simp; omega) | omega | (exact hs5.1.size) | (exact hs6.1.size) | (have := hs5.1.size; simp; omega)) ?_; intro A5 c5 w5 hown5 hk5 hat5; have hs5 : SX0 wc w5 := SX0.of (kept_fresh (by (repeat' first | (with_reducible assumption) | (with_reducible exact Kept.refl _ _) | (with_reducible refine Kept.alloc ?_ _) | (with_reducible refine Kept.call ?_ (by assumption)) | (with_reducible refine Kept.set ?_ _ _ _ (Or.inr ?_)) | (with_reducible refine Kept.drew ?_) | (simp; done) | omega | (simp; omega))) hk5 (by simp [Value.ownBlock])); have hkk5 := hs5.1; have ho5 := own_rng hown5) | (refine step_append_rd _ rfl (.tmp 61) (.tmp 63) 22 rfl wc.heap.size 3 i0 (.int .i64 0) 1 8 Try.underlying22 hi hz0 hz1 hz2 rfl (by decide) (.slice A5 n2 c5) n2 ((l.take n2).map (Value.int .i64)) rfl (by first | exact hown5 | exact own_alloc hown5 _) _ 1 1 [.int .i64 x] rfl (by (repeat' first | (with_reducible refine Rd.drew ?_) | (with_reducible refine Rd.keptX ?_ hk5 ?_) | ((with_reducible refine Rd.new1 _ _ _ _ ?_); simp; done) | (with_reducible refine Rd.alloc ?_ _) | (simp [Value.ownBlock]; done))) (fun h => by cases h) (by intro u hu; simp at hu; subst hu; rfl) (n2 + 1) rfl ((l.take n2).map (Value.int .i64) ++ [.int .i64 x]) rfl (by unfold maxLen; omega) (by omega) (by have := hkc.size; first | (simp; done) | (simp; omega) | omega | (exact hs5.1.size) | (exact hs6.1.size) | (have := hs5.1.size; simp; omega)) ?_; intro A6 c6 w6 hown6 hk6 hat6; have hs6 : SX0 wc w6 := SX0.of (kept_fresh (by (repeat' first | (with_reducible assumption) | (with_reducible exact Kept.refl _ _) | (with_reducible refine Kept.alloc ?_ _) | (with_reducible refine Kept.call ?_ (by assumption)) | (with_reducible refine Kept.set ?_ _ _ _ (Or.inr ?_)) | (with_reducible refine Kept.drew ?_) | (simp; done) | omega | (simp; omega))) hk6 (fun y hy => (ho5.out y (by simpa using hy)).1)); have hkk6 := hs6.1; have ho6 := own_rng hown6) | (refine step_append_rd _ rfl (.tmp 64) (.tmp 68) 22 rfl wc.heap.size 3 i0 (.int .i64 0) 1 8 Try.underlying22 hi hz0 hz1 hz2 rfl (by decide) (.slice A6 (n2 + 1) c6) (n2 + 1) ((l.take n2).map (Value.int .i64) ++ [.int .i64 x]) rfl hown6 A2 0 0 [] rfl ⟨rfl, fun h => absurd h (by omega)⟩ (fun _ => rfl) (by simp) (n2 + 1) rfl ((Wl.ins l n2 x).map (Value.int .i64)) HP0.out (by unfold maxLen; omega) (by omega) (by have := hkc.size; first | (simp; done) | (simp; omega) | omega | (exact hs5.1.size) | (exact hs6.1.size) | (have := hs5.1.size; simp; omega)) ?_; intro A7 c7 w7 hown7 hk7 hat7; have hs7 : SX0 wc w7 := SX0.of (kept_fresh hs6.1 hk7 (fun y hy => (ho6.out y (by simpa using hy)).1))))
        all_goals
          go_wp2_with fail
          go_meet
          refine ⟨A7, c7, rfl, ?_, hs7.1⟩
          exact hown7
      case rest =>
        obtain ⟨A3, c3, rfl, hown3, hkx⟩ := hcut
        obtain ⟨A3', c3', hv3, hi3, hge3⟩ := SIn.of_own hown3
        injection hv3 with e1 _ e2
        subst e1 e2
        have HI3 := Lib.hid hi3
        have HG3 := Lib.hid hge3
        clear hown3 hi3 hge3 C0 F0 C1 F1
        have BX0 := hkx.blk (by simp) BR0
        have BX1 := hkx.blk (by simp) BR1
        have ⟨L0', C0', F0'⟩ := BX0
        have ⟨L1', C1', F1'⟩ := BX1
        go_wp2_with fail
        have hkf := ((Kept.refl [b1] wc).set b1 0 (.slice A1 n1 c1) (.inl (by simp))).set b1 1 (.slice A3 (n2 + 1) c3) (.inl (by simp))
        have ⟨L1f, C1f, F1f⟩ := (Blk.set2 (v0 := .slice A1 n1 c1) (v1 := .slice A3 (n2 + 1) c3) (BX1.n rfl))
        refine bodyPost_ret (by simp [results, Try.results19, go_sem, C1f]; rfl) rfl ?_
        refine ⟨_, _, _, _, _, _, rfl, (HR1.out.kept hkx).keptX hkf (fun hp a ha => ?_), HI3.out.keptX hkf (fun _ a ha => ?_), ?_⟩
        · have := HR.out.lt hp ha
          simp; omega
        · have := HG3.out a ha
          simp; omega
        · exact hkf.below (hkx.below (hkc.below hB hB.size (by simp)) (Nat.le_trans hB.size hkc.size) (by simp)) (Nat.le_trans hB.size (Nat.le_trans hkc.size hkx.size)) (by simpa using G1)
    · have hck1 : ¬ (c2 = k) := fun h => hck h.symm
      have HCut : Hid (Rd wc 1 (A2.map (·.add k)) (n2 - k) ((l.map (Value.int .i64)).drop k)) := by
        have := HRd.out.cut hple hcap
        rwa [if_neg hck1] at this
      have hnone : Hid (A2.map (·.add k) = none → n2 - k = 0) := fun h => by
        have := HNil.out (by simpa using h)
        omega
      clear hck
      go_upto_region 13 with fail
      go_cut [8] (fun s wx => ∃ (A3 : Option Addr) (c3 : Nat), s = .slice A3 (n2 + 1) c3 ∧ wx.ownsRow wc.heap.size 3 1 (.slice A3 (n2 + 1) c3) (n2 + 1) ((Wl.ins l k x).map (Value.int .i64)) ∧ Kept [] wc wx)
      case first =>
        go_region_held3 (fun w' => SX0 wc w') (repeat' first | (with_reducible assumption) | (with_reducible exact SX0.init _) | (with_reducible exact SX0.refl _) | (with_reducible refine SX0.alloc ?_ _) | (with_reducible refine SX0.call ?_ (by assumption)) | (with_reducible refine SX0.set ?_ _ _ _ ?_) | (with_reducible refine SX0.drew ?_) | (simp; done) | omega | (simp; omega))
          (first | (refine step_append_rd _ rfl (.tmp 56) (.tmp 60) 22 rfl wc.heap.size 3 i0 (.int .i64 0) 1 8 Try.underlying22 hi hz0 hz1 hz2 rfl (by decide) (.slice (some ⟨_, 0, none⟩) 0 0) 0 [] rfl (by first | exact own_new0 _ _ _ _ (by first | rfl | simp) (by first | (simp; done) | (simp; omega)) | exact own_alloc (own_new0 _ _ _ _ (by first | rfl | simp) (by first | (simp; done) | (simp; omega))) _) A2 k c2 ((l.take k).map (Value.int .i64)) rfl (by rw [List.map_take]; exact (HRd.out.front hple).kept (by (repeat' first | (with_reducible assumption) | (with_reducible exact Kept.refl _ _) | (with_reducible refine Kept.alloc ?_ _) | (with_reducible refine Kept.call ?_ (by assumption)) | (with_reducible refine Kept.set ?_ _ _ _ (Or.inr ?_)) | (with_reducible refine Kept.drew ?_) | (simp; done) | omega | (simp; omega)))) (fun h => by have := HNil.out h; omega) (ints_one _) k (by omega) ((l.take k).map (Value.int .i64)) rfl (by unfold maxLen; omega) (by omega) (by have := hkc.size; first | (simp; done) | (simp; omega) | omega | (exact hs5.1.size) | (exact hs6.1.size) | (have := hs5.1.size; simp; omega)) ?_; intro A5 c5 w5 hown5 hk5 hat5; have hs5 : SX0 wc w5 := SX0.of (kept_fresh (by (repeat' first | (with_reducible assumption) | (with_reducible exact Kept.refl _ _) | (with_reducible refine Kept.alloc ?_ _) | (with_reducible refine Kept.call ?_ (by assumption)) | (with_reducible refine Kept.set ?_ _ _ _ (Or.inr ?_)) | (with_reducible refine Kept.drew ?_) | (simp; done) | omega | (simp; omega))) hk5 (by simp [Value.ownBlock])); have hkk5 := hs5.1; have ho5 := own_rng hown5) | (refine step_append_rd _ rfl (.tmp 61) (.tmp 63) 22 rfl wc.heap.size 3 i0 (.int .i64 0) 1 8 Try.underlying22 hi hz0 hz1 hz2 rfl (by decide) (.slice A5 k c5) k ((l.take k).map (Value.int .i64)) rfl (by first | exact hown5 | exact own_alloc hown5 _) _ 1 1 [.int .i64 x] rfl (by (repeat' first | (with_reducible refine Rd.drew ?_) | (with_reducible refine Rd.keptX ?_ hk5 ?_) | ((with_reducible refine Rd.new1 _ _ _ _ ?_); simp; done) | (with_reducible refine Rd.alloc ?_ _) | (simp [Value.ownBlock]; done))) (fun h => by cases h) (by intro u hu; simp at hu; subst hu; rfl) (k + 1) rfl ((l.take k).map (Value.int .i64) ++ [.int .i64 x]) rfl (by unfold maxLen; omega) (by omega) (by have := hkc.size; first | (simp; done) | (simp; omega) | omega | (exact hs5.1.size) | (exact hs6.1.size) | (have := hs5.1.size; simp; omega)) ?_; intro A6 c6 w6 hown6 hk6 hat6; have hs6 : SX0 wc w6 := SX0.of (kept_fresh (by (repeat' first | (with_reducible assumption) | (with_reducible exact Kept.refl _ _) | (with_reducible refine Kept.alloc ?_ _) | (with_reducible refine Kept.call ?_ (by assumption)) | (with_reducible refine Kept.set ?_ _ _ _ (Or.inr ?_)) | (with_reducible refine Kept.drew ?_) | (simp; done) | omega | (simp; omega))) hk6 (fun y hy => (ho5.out y (by simpa using hy)).1)); have hkk6 := hs6.1; have ho6 := own_rng hown6) | (refine step_append_rd _ rfl (.tmp 64) (.tmp 68) 22 rfl wc.heap.size 3 i0 (.int .i64 0) 1 8 Try.underlying22 hi hz0 hz1 hz2 rfl (by decide) (.slice A6 (k + 1) c6) (k + 1) ((l.take k).map (Value.int .i64) ++ [.int .i64 x]) rfl hown6 _ (n2 - k) (c2 - k) ((l.drop k).map (Value.int .i64)) rfl (by rw [List.map_drop]; exact HCut.out.kept hs6.1) (fun h => hnone.out h) (ints_one _) (n2 + 1) (by omega) ((Wl.ins l k x).map (Value.int .i64)) HP.out (by unfold maxLen; omega) (by omega) (by have := hkc.size; first | (simp; done) | (simp; omega) | omega | (exact hs5.1.size) | (exact hs6.1.size) | (have := hs5.1.size; simp; omega)) ?_; intro A7 c7 w7 hown7 hk7 hat7; have hs7 : SX0 wc w7 := SX0.of (kept_fresh hs6.1 hk7 (fun y hy => (ho6.out y (by simpa using hy)).1))))
        all_goals
          go_wp2_with fail
          go_meet
          refine ⟨A7, c7, rfl, ?_, hs7.1⟩
          exact hown7
      case rest =>
        obtain ⟨A3, c3, rfl, hown3, hkx⟩ := hcut
        obtain ⟨A3', c3', hv3, hi3, hge3⟩ := SIn.of_own hown3
        injection hv3 with e1 _ e2
        subst e1 e2
        have HI3 := Lib.hid hi3
        have HG3 := Lib.hid hge3
        clear hown3 hi3 hge3 C0 F0 C1 F1
        have BX0 := hkx.blk (by simp) BR0
        have BX1 := hkx.blk (by simp) BR1
        have ⟨L0', C0', F0'⟩ := BX0
        have ⟨L1', C1', F1'⟩ := BX1
        go_wp2_with fail
        have hkf := ((Kept.refl [b1] wc).set b1 0 (.slice A1 n1 c1) (.inl (by simp))).set b1 1 (.slice A3 (n2 + 1) c3) (.inl (by simp))
        have ⟨L1f, C1f, F1f⟩ := (Blk.set2 (v0 := .slice A1 n1 c1) (v1 := .slice A3 (n2 + 1) c3) (BX1.n rfl))
        refine bodyPost_ret (by simp [results, Try.results19, go_sem, C1f]; rfl) rfl ?_
        refine ⟨_, _, _, _, _, _, rfl, (HR1.out.kept hkx).keptX hkf (fun hp a ha => ?_), HI3.out.keptX hkf (fun _ a ha => ?_), ?_⟩
        · have := HR.out.lt hp ha
          simp; omega
        · have := HG3.out a ha
          simp; omega
        · exact hkf.below (hkx.below (hkc.below hB hB.size (by simp)) (Nat.le_trans hB.size hkc.size) (by simp)) (Nat.le_trans hB.size (Nat.le_trans hkc.size hkx.size)) (by simpa using G1)
end Go.Proofs.Ythliphpcfnbmnaa
