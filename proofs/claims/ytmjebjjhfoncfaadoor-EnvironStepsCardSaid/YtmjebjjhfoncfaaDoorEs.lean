/- Solutions in memory; the contract of the program's Above (printed by genEs.py). -/
import Derived.Test.YtmjebjjhfoncfaaDoorEr
namespace Go.Proofs.YtmjebjjhfoncfaaDoor
open Go.RowKit Go.Df
attribute [local go_sem ↓] Go.wp_at_zero Go.wp_at_succ
/-- A slice of slices of values in memory: n rows, row i of length len i. -/
def SolR (w : World) (A : Option Addr) (n : Nat) (len : Nat → Nat) (f : Nat → Nat → Xf.V) : Prop :=
  n ≤ 9223372036854775807 ∧ (∀ i, i < n → len i ≤ 9223372036854775807) ∧ (0 < n → ∃ b o, A = some ⟨b, o, none⟩ ∧ b < w.heap.size ∧ ∀ i, i < n → ∃ Ai ci, w.cell? ⟨b, o + i, none⟩ = some (.slice Ai (len i) ci) ∧
    (0 < len i → ∃ b' o', Ai = some ⟨b', o', none⟩ ∧ b' < w.heap.size ∧ ∀ d, d < len i → w.cell? ⟨b', o' + d * 2, none⟩ = some (.int .i64 (f i d).k) ∧ w.cell? ⟨b', o' + d * 2 + 1, none⟩ = some (.int .i64 (f i d).n)))
theorem SolR.row {w0 w : World} {A : Option Addr} {n : Nat} {len : Nat → Nat} {f : Nat → Nat → Xf.V} (h : SolR w0 A n len f) (hb : Below w0.heap.size w0 w) {i : Nat} (hi : i < n) :
    ∃ b o Ai ci, A = some ⟨b, o, none⟩ ∧ b < w0.heap.size ∧ w.cell? ⟨b, o + i, none⟩ = some (.slice Ai (len i) ci) ∧ (0 < len i → ∃ b' o', Ai = some ⟨b', o', none⟩ ∧ b' < w0.heap.size ∧ ∀ d, d < len i → w0.cell? ⟨b', o' + d * 2, none⟩ = some (.int .i64 (f i d).k) ∧ w0.cell? ⟨b', o' + d * 2 + 1, none⟩ = some (.int .i64 (f i d).n)) := by
  obtain ⟨b, o, rfl, hl, hc⟩ := h.2.2 (by omega)
  obtain ⟨Ai, ci, h1, h2⟩ := hc i hi
  exact ⟨b, o, Ai, ci, rfl, hl, (hb.cell (p := ⟨b, _, none⟩) hl).trans h1, h2⟩
theorem SolR.later {w w' : World} {A : Option Addr} {n : Nat} {len : Nat → Nat} {f : Nat → Nat → Xf.V} (h : SolR w A n len f) (hb : Below w.heap.size w w') : SolR w' A n len f :=
  ⟨h.1, h.2.1, fun h0 => by
    obtain ⟨b, o, e, hl, hc⟩ := h.2.2 h0
    refine ⟨b, o, e, Nat.lt_of_lt_of_le hl hb.size, fun i hi => ?_⟩
    obtain ⟨Ai, ci, h1, h2⟩ := hc i hi
    refine ⟨Ai, ci, (hb.cell (p := ⟨b, _, none⟩) hl).trans h1, fun h3 => ?_⟩
    obtain ⟨b', o', e', hl', hc'⟩ := h2 h3
    exact ⟨b', o', e', Nat.lt_of_lt_of_le hl' hb.size, fun d hd => ⟨(hb.cell (p := ⟨b', _, none⟩) hl').trans (hc' d hd).1, (hb.cell (p := ⟨b', _, none⟩) hl').trans (hc' d hd).2⟩⟩⟩
def atS (m : Nat) (lb : Nat → Nat) (fb : Nat → Nat → Xf.V) (i d : Nat) : Xf.V := if i < m ∧ d < lb i then fb i d else ⟨0, 0⟩

set_option maxRecDepth 100000 in
set_option maxHeartbeats 8000000 in
theorem above_any (A B : Option Addr) (n c m c' : Nat) (la lb : Nat → Nat) (fa fb : Nat → Nat → Xf.V) (w : World) (hA : SolR w A n la fa) (hBs : SolR w B m lb fb) :
    Calls Tryd.prog 14 #[.agg #[.slice A n c], .agg #[.slice B m c']] w fun e w' => ∃ r : Bool, e = .returned (.bool r) ∧ (r = true ↔ ∀ i, i < n → ∀ d, d < la i → Xf.below (atS m lb fb i d) (fa i d) = true) ∧ Below w.heap.size w w' := by
  have HA := Lib.hid hA
  have HBs := Lib.hid hBs
  have hn := hA.1
  clear hA hBs
  go_enter Tryd.func14, Tryd.ntmps14
  go_upto_region 1 with fail
  refine wp_named (fun W => ∃ b0 b1, w.heap.size = b0 ∧ w.heap.size + 1 = b1 ∧ Blk W b0 [.slice A n c] ∧ Blk W b1 [.slice B m c'] ∧ Below w.heap.size w W) ⟨_, _, rfl, rfl, ?_, ?_, ?_⟩ ?_
  · exact (Blk.new _ _ _ _ (by first | rfl | simp)).alloc _
  · exact Blk.new _ _ _ _ (by first | rfl | simp)
  · go_grown
  rintro W ⟨b0, b1, e0, e1, B0, B1, hB⟩
  rw [e1, e0]
  have G0 : w.heap.size ≤ b0 := by omega
  have n01 : b0 ≠ b1 := by omega
  have G1 : w.heap.size ≤ b1 := by omega
  have n10 : b1 ≠ b0 := by omega
  clear e0 e1
  have ⟨L0, C0, F0⟩ := B0
  have ⟨L1, C1, F1⟩ := B1
  have hkW : Kept [] w W := (Kept.refl _ _).call hB
  go_wp2_with fail
  go_loopw [13] (fun s wr => ∃ i : Nat, i ≤ n ∧ s = .int .i64 i ∧ Kept [] W wr ∧ Hid (∀ x, x < i → ∀ d, d < la x → Xf.below (atS m lb fb x d) (fa x d) = true)) (fun s _ => n - (intOf s).toNat)
  case atStart => exact ⟨0, Nat.zero_le _, rfl, Kept.refl _ _, Lib.hid (fun x hx => absurd hx (by omega))⟩
  case round =>
    obtain ⟨i, hi, rfl, hkr, hall⟩ := hrel
    have hkwr : Kept [] w wr := keptTrans hkW hkr
    have ⟨LR0, CR0, FR0⟩ := hkr.blk (by simp) B0
    have ⟨LR1, CR1, FR1⟩ := hkr.blk (by simp) B1
    clear C0 F0 C1 F1
    by_cases hlt : i < n
    case neg =>
      obtain rfl : i = n := by omega
      go_wp2_with fail
      go_ret
      exact ⟨true, rfl, ⟨fun _ => hall.out, fun _ => rfl⟩, hkwr.toBelow⟩
    obtain ⟨ba, oa, Ai, ci, rfl, hla, hca, hra⟩ := HA.out.row hkwr.toBelow hlt
    have hlen := HA.out.2.1 i hlt
    obtain ⟨li, hli⟩ : ∃ li, la i = li := ⟨_, rfl⟩
    rw [hli] at hca hra hlen
    have HRA := Lib.hid hra
    have HLI := Lib.hid hli
    have hlar : ba < wr.heap.size := Nat.lt_of_lt_of_le hla hkwr.size
    have hi1 : (i : Int) < (n : Int) := by omega
    clear hra hli
    go_wp2_with fail
    clear CR0 FR0 CR1 FR1 hca
    go_loopw [20] (fun s wq => ∃ d : Nat, d ≤ li ∧ s = .int .i64 d ∧ Kept [] W wq ∧ Hid (∀ y, y < d → Xf.below (atS m lb fb i y) (fa i y) = true)) (fun s _ => li - (intOf s).toNat)
    case atStart => exact ⟨0, Nat.zero_le _, rfl, hkr, Lib.hid (fun x hx => absurd hx (by omega))⟩
    case round =>
      rename World => wq
      obtain ⟨d, hdl, rfl, hkq, hd⟩ := hrel
      have hkwq : Kept [] w wq := keptTrans hkW hkq
      have BQ1 := hkq.blk (by simp) B1
      by_cases hltd : d < li
      case neg =>
        obtain rfl : d = li := by omega
        have HALL : Hid (∀ x, x < i + 1 → ∀ d, d < la x → Xf.below (atS m lb fb x d) (fa x d) = true) := fun x hx y hy => by
          rcases Nat.lt_or_ge x i with h9 | h9
          · exact hall.out x h9 y hy
          · obtain rfl : x = i := by omega
            exact hd.out y (by rw [HLI.out] at hy; exact hy)
        go_wp2_with fail
        exact ⟨⟨i + 1, by omega, by go_num, hkq, HALL⟩, by simp [intOf]; omega⟩
      obtain ⟨b, o, rfl, hl, hc⟩ := HRA.out (by omega)
      obtain ⟨⟨vk, vn⟩, hv⟩ : ∃ v, fa i d = v := ⟨_, rfl⟩
      have h1 := (hkwq.cell b _ hl (by simp)).trans (hc d hltd).1
      have h2 := (hkwq.cell b _ hl (by simp)).trans (hc d hltd).2
      rw [hv] at h1 h2
      have HV := Lib.hid hv
      have hlq : b < wq.heap.size := Nat.lt_of_lt_of_le hl hkwq.size
      have hd1 : (d : Int) < (li : Int) := by omega
      clear hv hc
      go_upto_region 8 with fail
      refine wp_named (fun V => ∃ bv bw, wq.heap.size = bv ∧ wq.heap.size + 1 = bw ∧ Blk V bv [.int .i64 vk, .int .i64 vn] ∧ Blk V bw [.int .i64 0, .int .i64 0] ∧ Kept [] wq V) ⟨_, _, rfl, rfl, (Blk.new _ _ _ _ rfl).alloc _, Blk.new _ _ _ _ (by simp), ((Kept.refl _ _).alloc _).alloc _⟩ ?_
      rintro V ⟨bv, bw, ev, ew, Bv, Bw, hkV⟩
      rw [ew, ev]
      have hqV := hkV.size
      have hbvw : bv ≠ bw := by omega
      have hbwq : wq.heap.size ≤ bw := by omega
      have ⟨LW, CW, FW⟩ := Bw
      have ⟨LV, CV, FV⟩ := Bv
      have ⟨LQ1, CQ1, FQ1⟩ := hkV.blk (by simp) BQ1
      have hkwV : Kept [] w V := keptTrans hkwq hkV
      clear h1 h2 ev ew
      obtain ⟨⟨uk, un⟩, hu⟩ : ∃ u, atS m lb fb i d = u := ⟨_, rfl⟩
      have hltd' : d < la i := by rw [HLI.out]; exact hltd
      replace hltd := hltd'
      clear hltd'
      by_cases hm : i < m
      case neg =>
        have hz : (⟨0, 0⟩ : Xf.V) = ⟨uk, un⟩ := by rw [← hu]; unfold atS; rw [if_neg (fun h => hm h.1)]
        injection hz with z1 z2
        subst z1 z2
        have HU := Lib.hid hu
        have m1 : decide ((i : Int) < (m : Int)) = false := by simp; omega
        have m2 : decide (i < m) = false := by simp; omega
        clear hu
        go_upto_region 10 with fail
        refine wp_named (fun V2 => Blk V2 bw [.int .i64 0, .int .i64 0] ∧ Blk V2 bv [.int .i64 vk, .int .i64 vn] ∧ Kept [] wq V2) ⟨Bw, Bv, hkV⟩ ?_
        rintro V2 ⟨Bw2, Bv2, hkV2⟩
        have ⟨LW2, CW2, FW2⟩ := Bw2
        have ⟨LV2, CV2, FV2⟩ := Bv2
        clear CW FW CV FV
        cases hr : Xf.below ⟨0, 0⟩ ⟨vk, vn⟩ with
        | true =>
          have HR := Lib.hid hr
          clear hr
          go_wp2_with (go_at_call 26; refine (below_any 0 0 vk vn _).mono ?_; rw [HR.out]; rintro e w5 ⟨rfl, hb5⟩)
          have HD2 : Hid (∀ y, y < d + 1 → Xf.below (atS m lb fb i y) (fa i y) = true) := fun y hy => by
            rcases Nat.lt_or_ge y d with h9 | h9
            · exact hd.out y h9
            · obtain rfl : y = d := by omega
              rw [HU.out, HV.out, HR.out]
          exact ⟨⟨d + 1, by omega, by go_num, keptTrans hkq (hkV2.call hb5), HD2⟩, by simp [intOf]; omega⟩
        | false =>
          have HR := Lib.hid hr
          clear hr
          go_wp2_with (go_at_call 26; refine (below_any 0 0 vk vn _).mono ?_; rw [HR.out]; rintro e w5 ⟨rfl, hb5⟩)
          go_ret
          refine ⟨false, rfl, ⟨(fun h => by cases h), fun h => ?_⟩, (keptTrans hkwq (hkV2.call hb5)).toBelow⟩
          have h9 := h i hlt d hltd
          rw [HU.out, HV.out, HR.out] at h9
          cases h9
      obtain ⟨bb, ob, Bi, di, rfl, hlb, hcb, hrb⟩ := HBs.out.row hkwV.toBelow hm
      have hlbV : bb < V.heap.size := Nat.lt_of_lt_of_le hlb hkwV.size
      have hlenb := HBs.out.2.1 i hm
      obtain ⟨lj, hlj⟩ : ∃ lj, lb i = lj := ⟨_, rfl⟩
      rw [hlj] at hcb hrb hlenb
      have m1 : decide ((i : Int) < (m : Int)) = true := by simp; omega
      have m2 : (i : Int) < (m : Int) := by omega
      by_cases hdm : d < lj
      case neg =>
        have hz : (⟨0, 0⟩ : Xf.V) = ⟨uk, un⟩ := by rw [← hu]; unfold atS; rw [if_neg (fun h => hdm (by rw [hlj] at h; exact h.2))]
        injection hz with z1 z2
        subst z1 z2
        have HU := Lib.hid hu
        have m3 : decide ((d : Int) < (lj : Int)) = false := by simp; omega
        have m4 : decide (d < lj) = false := by simp; omega
        clear hu hlj hrb
        go_upto_region 10 with fail
        refine wp_named (fun V2 => Blk V2 bw [.int .i64 0, .int .i64 0] ∧ Blk V2 bv [.int .i64 vk, .int .i64 vn] ∧ Kept [] wq V2) ⟨Bw, Bv, hkV⟩ ?_
        rintro V2 ⟨Bw2, Bv2, hkV2⟩
        have ⟨LW2, CW2, FW2⟩ := Bw2
        have ⟨LV2, CV2, FV2⟩ := Bv2
        clear CW FW CV FV
        cases hr : Xf.below ⟨0, 0⟩ ⟨vk, vn⟩ with
        | true =>
          have HR := Lib.hid hr
          clear hr
          go_wp2_with (go_at_call 26; refine (below_any 0 0 vk vn _).mono ?_; rw [HR.out]; rintro e w5 ⟨rfl, hb5⟩)
          have HD2 : Hid (∀ y, y < d + 1 → Xf.below (atS m lb fb i y) (fa i y) = true) := fun y hy => by
            rcases Nat.lt_or_ge y d with h9 | h9
            · exact hd.out y h9
            · obtain rfl : y = d := by omega
              rw [HU.out, HV.out, HR.out]
          exact ⟨⟨d + 1, by omega, by go_num, keptTrans hkq (hkV2.call hb5), HD2⟩, by simp [intOf]; omega⟩
        | false =>
          have HR := Lib.hid hr
          clear hr
          go_wp2_with (go_at_call 26; refine (below_any 0 0 vk vn _).mono ?_; rw [HR.out]; rintro e w5 ⟨rfl, hb5⟩)
          go_ret
          refine ⟨false, rfl, ⟨(fun h => by cases h), fun h => ?_⟩, (keptTrans hkwq (hkV2.call hb5)).toBelow⟩
          have h9 := h i hlt d hltd
          rw [HU.out, HV.out, HR.out] at h9
          cases h9
      obtain ⟨b2, o2, rfl, hl2, hc2⟩ := hrb (by omega)
      have hz : fb i d = ⟨uk, un⟩ := by rw [← hu]; unfold atS; rw [if_pos ⟨hm, by rw [hlj]; exact hdm⟩]
      have r1 := (hkwV.cell b2 _ hl2 (by simp)).trans (hc2 d hdm).1
      have r2 := (hkwV.cell b2 _ hl2 (by simp)).trans (hc2 d hdm).2
      rw [hz] at r1 r2
      have hl2V : b2 < V.heap.size := Nat.lt_of_lt_of_le hl2 hkwV.size
      have HU := Lib.hid hu
      have m3 : decide ((d : Int) < (lj : Int)) = true := by simp; omega
      have m4 : (d : Int) < (lj : Int) := by omega
      clear hu hlj hc2 hrb hz
      go_upto_region 10 with fail
      refine wp_named (fun V2 => Blk V2 bw [.int .i64 uk, .int .i64 un] ∧ Blk V2 bv [.int .i64 vk, .int .i64 vn] ∧ Kept [] wq V2) ⟨(Bw.set 0 _).set 1 _, (Bv.setOther bw 0 _ (Ne.symm hbvw)).setOther bw 1 _ (Ne.symm hbvw), (hkV.set bw _ _ (.inr hbwq)).set bw _ _ (.inr hbwq)⟩ ?_
      rintro V2 ⟨Bw2, Bv2, hkV2⟩
      have ⟨LW2, CW2, FW2⟩ := Bw2
      have ⟨LV2, CV2, FV2⟩ := Bv2
      clear CW FW CV FV
      cases hr : Xf.below ⟨uk, un⟩ ⟨vk, vn⟩ with
      | true =>
        have HR := Lib.hid hr
        clear hr
        go_wp2_with (go_at_call 26; refine (below_any uk un vk vn _).mono ?_; rw [HR.out]; rintro e w5 ⟨rfl, hb5⟩)
        have HD2 : Hid (∀ y, y < d + 1 → Xf.below (atS m lb fb i y) (fa i y) = true) := fun y hy => by
          rcases Nat.lt_or_ge y d with h9 | h9
          · exact hd.out y h9
          · obtain rfl : y = d := by omega
            rw [HU.out, HV.out, HR.out]
        exact ⟨⟨d + 1, by omega, by go_num, keptTrans hkq (hkV2.call hb5), HD2⟩, by simp [intOf]; omega⟩
      | false =>
        have HR := Lib.hid hr
        clear hr
        go_wp2_with (go_at_call 26; refine (below_any uk un vk vn _).mono ?_; rw [HR.out]; rintro e w5 ⟨rfl, hb5⟩)
        go_ret
        refine ⟨false, rfl, ⟨(fun h => by cases h), fun h => ?_⟩, (keptTrans hkwq (hkV2.call hb5)).toBelow⟩
        have h9 := h i hlt d hltd
        rw [HU.out, HV.out, HR.out] at h9
        cases h9
end Go.Proofs.YtmjebjjhfoncfaaDoor
