/- A pack of texts: Ka Kb. -/
import Derived.Test.YtmbihjlflcjlnaaGreatSa
import Derived.Test.YtmbihjlflcjlnaaGreatLr
/- Solutions in memory; the contracts of both Holds. -/
namespace Go.Df
open Go.RowKit
namespace If
def gbl (l : List Bool) (i : Nat) : Bool := l.getD i false
def gil (l : List (List Int)) (i : Nat) : List Int := l.getD i []
/-- A slice of truths; of slices of numbers. -/
def Bls (w : World) (A : Option Addr) (n : Nat) (l : List Bool) : Prop :=
  l.length = n ∧ (0 < n → ∃ b o, A = some ⟨b, o, none⟩ ∧ b < w.heap.size ∧ ∀ i, i < n → w.cell? ⟨b, o + i, none⟩ = some (.bool (gbl l i)))
theorem Bls.later {w w' : World} {A : Option Addr} {n : Nat} {l : List Bool} (h : Bls w A n l) (hb : Below w.heap.size w w') : Bls w' A n l :=
  ⟨h.1, fun hn => by
    obtain ⟨b, o, e, hl, hc⟩ := h.2 hn
    exact ⟨b, o, e, Nat.lt_of_lt_of_le hl hb.size, fun i hi => (hb.cell (p := ⟨b, _, none⟩) hl).trans (hc i hi)⟩⟩
def IntsR (w : World) (A : Option Addr) (n : Nat) (ls : List (List Int)) : Prop :=
  ls.length = n ∧ (0 < n → ∃ b o, A = some ⟨b, o, none⟩ ∧ b < w.heap.size ∧ ∀ i, i < n → ∃ Ai ni ci, w.cell? ⟨b, o + i, none⟩ = some (.slice Ai ni ci) ∧ Ints w Ai ni (gil ls i) ∧ ni ≤ 9223372036854775807)
theorem IntsR.later {w w' : World} {A : Option Addr} {n : Nat} {ls : List (List Int)} (h : IntsR w A n ls) (hb : Below w.heap.size w w') : IntsR w' A n ls :=
  ⟨h.1, fun hn => by
    obtain ⟨b, o, e, hl, hc⟩ := h.2 hn
    refine ⟨b, o, e, Nat.lt_of_lt_of_le hl hb.size, fun i hi => ?_⟩
    obtain ⟨Ai, ni, ci, h1, h2, h3⟩ := hc i hi
    exact ⟨Ai, ni, ci, (hb.cell (p := ⟨b, _, none⟩) hl).trans h1, h2.later hb, h3⟩⟩
/-- Does a fact hold at a node of a solution? -/
def holdsS (re : List Bool) (fs : List (List Int)) (node fact : Int) : Bool :=
  if node < 0 then false else if fact = 0 then decide (node.toNat < re.length) && gbl re node.toNat else decide (node.toNat < fs.length) && decide (fact ∈ gil fs node.toNat)
theorem mem_upto {l : List Int} {x : Int} {k : Nat} (hk : k < l.length) (e : gi l k = x) : x ∈ l := by
  rw [gi_lt hk] at e
  exact e ▸ List.getElem_mem hk
theorem not_mem_upto {l : List Int} {x : Int} (h : ∀ j, j < l.length → gi l j ≠ x) : ¬ x ∈ l := by
  intro hm
  obtain ⟨j, hj, e⟩ := List.getElem_of_mem hm
  exact h j hj ((gi_lt hj).trans e)
end If
end Go.Df
namespace Go.Proofs.YtmbihjlflcjlnaaGreat
open Go.RowKit Go.Df Go.Df.If
attribute [local go_sem ↓] Go.wp_at_zero Go.wp_at_succ

set_option maxHeartbeats 1000000 in
theorem rhas_any (A : Option Addr) (n c : Nat) (l : List Int) (x : Int) (w : World) (hr : Ints w A n l) (hn : n ≤ 9223372036854775807) :
    Calls Tryz.prog 51 #[.slice A n c, .int .i64 x] w fun e w' => e = .returned (.bool (decide (x ∈ l))) ∧ w = w' := by
  have HR := Lib.hid hr
  have HL := Lib.hid hr.1
  clear hr
  go_enter Tryz.func51, Tryz.ntmps51
  go_wp2
  go_loop [5] (fun i => ∃ k : Nat, k ≤ n ∧ i = .int .i64 k ∧ Hid (∀ j, j < k → gi l j ≠ x)) (fun i => n - (intOf i).toNat)
  case atStart => exact ⟨0, Nat.zero_le _, rfl, Lib.hid (fun j hj => absurd hj (by omega))⟩
  case round =>
    obtain ⟨k, hk, rfl, hj⟩ := hrel
    by_cases hlt : k < n
    · obtain ⟨b, o, rfl, hl, hc⟩ := HR.out.2 (by omega)
      have hcell := hc k hlt
      have hk1 : (k : Int) < (n : Int) := by omega
      obtain ⟨v, hv⟩ : ∃ v, gi l k = v := ⟨_, rfl⟩
      rw [hv] at hcell
      have HV := Lib.hid hv
      clear hc hv
      by_cases e : v = x
      · have e1 : (v == x) = true := by simpa using e
        have HM : Hid (x ∈ l) := Lib.hid (mem_upto (by rw [HL.out]; exact hlt) (HV.out.trans e))
        clear e
        go_wp2
        go_ret
        exact ⟨ret_bool (decide_eq_true HM.out).symm, rfl⟩
      · have e1 : (v == x) = false := by simpa using e
        have HJ : Hid (∀ j, j < k + 1 → gi l j ≠ x) := fun j h1 => by
          rcases Nat.lt_or_ge j k with h2 | h2
          · exact hj.out j h2
          · obtain rfl : j = k := by omega
            rw [HV.out]; exact e
        clear e
        go_wp2
        go_round
        case rel => exact ⟨k + 1, by omega, by go_num, HJ⟩
        case measure => simp [intOf]; omega
    · have HM : Hid (¬ x ∈ l) := Lib.hid (not_mem_upto (fun j h1 => hj.out j (by rw [HL.out] at h1; omega)))
      go_wp2
      go_ret
      exact ⟨ret_bool (decide_eq_false HM.out).symm, rfl⟩
end Go.Proofs.YtmbihjlflcjlnaaGreat
/- The contracts of both Holds (printed by genKb.py). -/
namespace Go.Proofs.YtmbihjlflcjlnaaGreat
open Go.RowKit Go.Df Go.Df.If
attribute [local go_sem ↓] Go.wp_at_zero Go.wp_at_succ

set_option maxRecDepth 100000 in
set_option maxHeartbeats 4000000 in
theorem holds_any (A1 A2 : Option Addr) (n1 c1 n2 c2 : Nat) (re : List Bool) (fs : List (List Int)) (node fact : Int) (w : World) (hr : Bls w A1 n1 re) (hf : IntsR w A2 n2 fs) (h1 : n1 ≤ 9223372036854775807) (h2 : n2 ≤ 9223372036854775807) :
    Calls Tryz.prog 31 #[.agg #[.slice A1 n1 c1, .slice A2 n2 c2], .int .i64 node, .int .i64 fact] w fun e w' => e = .returned (.bool (holdsS re fs node fact)) ∧ Below w.heap.size w w' := by
  have HR := Lib.hid hr
  have HF := Lib.hid hf
  have HRL := Lib.hid hr.1
  have HFL := Lib.hid hf.1
  clear hr hf
  by_cases hn : node < 0
  · have HH : Hid (holdsS re fs node fact = false) := by show _ = _; unfold holdsS; rw [if_pos hn]
    go_enter Tryz.func31, Tryz.ntmps31
    go_upto_region 1 with fail
    refine wp_named (fun W => ∃ b0, w.heap.size = b0 ∧ Blk W b0 [.slice A1 n1 c1, .slice A2 n2 c2] ∧ Below w.heap.size w W) ⟨_, rfl, ?_, ?_⟩ ?_
    · exact Blk.new _ _ _ _ (by first | rfl | simp)
    · go_grown
    rintro W ⟨b0, e0, B0, hB⟩
    rw [e0]
    have G0 : w.heap.size ≤ b0 := by omega
    clear e0
    have ⟨L0, C0, F0⟩ := B0
    go_wp2
    go_ret
    exact ⟨ret_bool HH.out.symm, hB⟩
  obtain ⟨k, rfl⟩ := Int.eq_ofNat_of_zero_le (show 0 ≤ node by omega)
  have hk0 : ¬ (k : Int) < 0 := hn
  by_cases hz : fact = 0
  · subst hz
    by_cases hlt : k < n1
    · obtain ⟨b1, o1, rfl, hl1, hc1⟩ := HR.out.2 (by omega)
      have hcell := hc1 k hlt
      obtain ⟨v, hv⟩ : ∃ v, gbl re k = v := ⟨_, rfl⟩
      rw [hv] at hcell
      have HH : Hid (holdsS re fs k 0 = v) := by show _ = _; unfold holdsS; rw [if_neg hk0, if_pos rfl, Int.toNat_natCast, hv, decide_eq_true (by rw [HRL.out]; exact hlt)]; rfl
      have hk1 : (k : Int) < (n1 : Int) := by omega
      clear hc1 hv
      go_enter Tryz.func31, Tryz.ntmps31
      go_upto_region 1 with fail
      refine wp_named (fun W => ∃ b0, w.heap.size = b0 ∧ Blk W b0 [.slice (some ⟨b1, o1, none⟩) n1 c1, .slice A2 n2 c2] ∧ Below w.heap.size w W) ⟨_, rfl, ?_, ?_⟩ ?_
      · exact Blk.new _ _ _ _ (by first | rfl | simp)
      · go_grown
      rintro W ⟨b0, e0, B0, hB⟩
      rw [e0]
      have G0 : w.heap.size ≤ b0 := by omega
      clear e0
      have ⟨L0, C0, F0⟩ := B0
      have r1 : W.cell? ⟨b1, o1 + k, none⟩ = some (.bool v) := (hB.cell (p := ⟨b1, _, none⟩) hl1).trans hcell
      have hl1W : b1 < W.heap.size := Nat.lt_of_lt_of_le hl1 hB.size
      go_wp2
      go_ret
      exact ⟨ret_bool HH.out.symm, hB⟩
    · have HH : Hid (holdsS re fs k 0 = false) := by show _ = _; unfold holdsS; rw [if_neg hk0, if_pos rfl, Int.toNat_natCast, decide_eq_false (by rw [HRL.out]; exact hlt)]; rfl
      have hk1 : ¬ (k : Int) < (n1 : Int) := by omega
      go_enter Tryz.func31, Tryz.ntmps31
      go_upto_region 1 with fail
      refine wp_named (fun W => ∃ b0, w.heap.size = b0 ∧ Blk W b0 [.slice A1 n1 c1, .slice A2 n2 c2] ∧ Below w.heap.size w W) ⟨_, rfl, ?_, ?_⟩ ?_
      · exact Blk.new _ _ _ _ (by first | rfl | simp)
      · go_grown
      rintro W ⟨b0, e0, B0, hB⟩
      rw [e0]
      have G0 : w.heap.size ≤ b0 := by omega
      clear e0
      have ⟨L0, C0, F0⟩ := B0
      go_wp2
      go_ret
      exact ⟨ret_bool HH.out.symm, hB⟩
  have hz1 : (fact == 0) = false := by simpa using hz
  by_cases hlt : k < n2
  case neg =>
    have HH : Hid (holdsS re fs k fact = false) := by show _ = _; unfold holdsS; rw [if_neg hk0, if_neg hz, Int.toNat_natCast, decide_eq_false (by rw [HFL.out]; exact hlt)]; rfl
    have hk1 : ¬ (k : Int) < (n2 : Int) := by omega
    have hk2 : (n2 : Int) ≤ (k : Int) := by omega
    clear hz
    go_enter Tryz.func31, Tryz.ntmps31
    go_upto_region 1 with fail
    refine wp_named (fun W => ∃ b0, w.heap.size = b0 ∧ Blk W b0 [.slice A1 n1 c1, .slice A2 n2 c2] ∧ Below w.heap.size w W) ⟨_, rfl, ?_, ?_⟩ ?_
    · exact Blk.new _ _ _ _ (by first | rfl | simp)
    · go_grown
    rintro W ⟨b0, e0, B0, hB⟩
    rw [e0]
    have G0 : w.heap.size ≤ b0 := by omega
    clear e0
    have ⟨L0, C0, F0⟩ := B0
    go_wp2
    go_ret
    exact ⟨ret_bool HH.out.symm, hB⟩
  obtain ⟨b1, o1, rfl, hl1, hc1⟩ := HF.out.2 (by omega)
  obtain ⟨Ai, ni, ci, hcell, hints, hni⟩ := hc1 k hlt
  have HH : Hid (holdsS re fs k fact = decide (fact ∈ gil fs k)) := by show _ = _; unfold holdsS; rw [if_neg hk0, if_neg hz, Int.toNat_natCast, decide_eq_true (by rw [HFL.out]; exact hlt)]; rfl
  have hk1 : (k : Int) < (n2 : Int) := by omega
  have hk2 : ¬ (n2 : Int) ≤ (k : Int) := by omega
  have HI := Lib.hid hints
  clear hc1 hz hints
  go_enter Tryz.func31, Tryz.ntmps31
  go_upto_region 1 with fail
  refine wp_named (fun W => ∃ b0, w.heap.size = b0 ∧ Blk W b0 [.slice A1 n1 c1, .slice (some ⟨b1, o1, none⟩) n2 c2] ∧ Below w.heap.size w W) ⟨_, rfl, ?_, ?_⟩ ?_
  · exact Blk.new _ _ _ _ (by first | rfl | simp)
  · go_grown
  rintro W ⟨b0, e0, B0, hB⟩
  rw [e0]
  have G0 : w.heap.size ≤ b0 := by omega
  clear e0
  have ⟨L0, C0, F0⟩ := B0
  have r1 : W.cell? ⟨b1, o1 + k, none⟩ = some (.slice Ai ni ci) := (hB.cell (p := ⟨b1, _, none⟩) hl1).trans hcell
  have hl1W : b1 < W.heap.size := Nat.lt_of_lt_of_le hl1 hB.size
  have HIW := Lib.hid (HI.out.later hB)
  clear hcell
  go_wp2
  go_loop [36] (fun i => ∃ j : Nat, j ≤ ni ∧ i = .int .i64 j ∧ Hid (∀ x, x < j → gi (gil fs k) x ≠ fact)) (fun i => ni - (intOf i).toNat)
  case atStart => exact ⟨0, Nat.zero_le _, rfl, Lib.hid (fun j hj => absurd hj (by omega))⟩
  case round =>
    obtain ⟨j, hj, rfl, hall⟩ := hrel
    by_cases hlj : j < ni
    · obtain ⟨b3, o3, rfl, hl3, hc3⟩ := HIW.out.2 (by omega)
      have r3 := hc3 j hlj
      have hj1 : (j : Int) < (ni : Int) := by omega
      obtain ⟨v, hv⟩ : ∃ v, gi (gil fs k) j = v := ⟨_, rfl⟩
      rw [hv] at r3
      have HV := Lib.hid hv
      clear hc3 hv
      by_cases e : v = fact
      · have e1 : (v == fact) = true := by simpa using e
        have HM : Hid (fact ∈ gil fs k) := Lib.hid (mem_upto (by rw [HIW.out.1]; exact hlj) (HV.out.trans e))
        clear e
        go_wp2
        go_ret
        exact ⟨ret_bool (HH.out.trans (decide_eq_true HM.out)).symm, hB⟩
      · have e1 : (v == fact) = false := by simpa using e
        have HJ : Hid (∀ x, x < j + 1 → gi (gil fs k) x ≠ fact) := fun x h1 => by
          rcases Nat.lt_or_ge x j with h2 | h2
          · exact hall.out x h2
          · obtain rfl : x = j := by omega
            rw [HV.out]; exact e
        clear e
        go_wp2
        go_round
        case rel => exact ⟨j + 1, by omega, by go_num, HJ⟩
        case measure => simp [intOf]; omega
    · have HM : Hid (¬ fact ∈ gil fs k) := Lib.hid (not_mem_upto (fun x h1 => hall.out x (by rw [HIW.out.1] at h1; omega)))
      go_wp2
      go_ret
      exact ⟨ret_bool (HH.out.trans (decide_eq_false HM.out)).symm, hB⟩

set_option maxRecDepth 100000 in
set_option maxHeartbeats 4000000 in
theorem rholds_any (A1 A2 : Option Addr) (n1 c1 n2 c2 : Nat) (re : List Bool) (fs : List (List Int)) (node fact : Int) (w : World) (hr : Bls w A1 n1 re) (hf : IntsR w A2 n2 fs) (h1 : n1 ≤ 9223372036854775807) (h2 : n2 ≤ 9223372036854775807) :
    Calls Tryz.prog 50 #[.agg #[.slice A1 n1 c1, .slice A2 n2 c2], .int .i64 node, .int .i64 fact] w fun e w' => e = .returned (.bool (holdsS re fs node fact)) ∧ Below w.heap.size w w' := by
  have HR := Lib.hid hr
  have HF := Lib.hid hf
  have HRL := Lib.hid hr.1
  have HFL := Lib.hid hf.1
  clear hr hf
  by_cases hn : node < 0
  · have HH : Hid (holdsS re fs node fact = false) := by show _ = _; unfold holdsS; rw [if_pos hn]
    go_enter Tryz.func50, Tryz.ntmps50
    go_upto_region 1 with fail
    refine wp_named (fun W => ∃ b0, w.heap.size = b0 ∧ Blk W b0 [.slice A1 n1 c1, .slice A2 n2 c2] ∧ Below w.heap.size w W) ⟨_, rfl, ?_, ?_⟩ ?_
    · exact Blk.new _ _ _ _ (by first | rfl | simp)
    · go_grown
    rintro W ⟨b0, e0, B0, hB⟩
    rw [e0]
    have G0 : w.heap.size ≤ b0 := by omega
    clear e0
    have ⟨L0, C0, F0⟩ := B0
    go_wp2
    go_ret
    exact ⟨ret_bool HH.out.symm, hB⟩
  obtain ⟨k, rfl⟩ := Int.eq_ofNat_of_zero_le (show 0 ≤ node by omega)
  have hk0 : ¬ (k : Int) < 0 := hn
  by_cases hz : fact = 0
  · subst hz
    by_cases hlt : k < n1
    · obtain ⟨b1, o1, rfl, hl1, hc1⟩ := HR.out.2 (by omega)
      have hcell := hc1 k hlt
      obtain ⟨v, hv⟩ : ∃ v, gbl re k = v := ⟨_, rfl⟩
      rw [hv] at hcell
      have HH : Hid (holdsS re fs k 0 = v) := by show _ = _; unfold holdsS; rw [if_neg hk0, if_pos rfl, Int.toNat_natCast, hv, decide_eq_true (by rw [HRL.out]; exact hlt)]; rfl
      have hk1 : (k : Int) < (n1 : Int) := by omega
      clear hc1 hv
      go_enter Tryz.func50, Tryz.ntmps50
      go_upto_region 1 with fail
      refine wp_named (fun W => ∃ b0, w.heap.size = b0 ∧ Blk W b0 [.slice (some ⟨b1, o1, none⟩) n1 c1, .slice A2 n2 c2] ∧ Below w.heap.size w W) ⟨_, rfl, ?_, ?_⟩ ?_
      · exact Blk.new _ _ _ _ (by first | rfl | simp)
      · go_grown
      rintro W ⟨b0, e0, B0, hB⟩
      rw [e0]
      have G0 : w.heap.size ≤ b0 := by omega
      clear e0
      have ⟨L0, C0, F0⟩ := B0
      have r1 : W.cell? ⟨b1, o1 + k, none⟩ = some (.bool v) := (hB.cell (p := ⟨b1, _, none⟩) hl1).trans hcell
      have hl1W : b1 < W.heap.size := Nat.lt_of_lt_of_le hl1 hB.size
      go_wp2
      go_ret
      exact ⟨ret_bool HH.out.symm, hB⟩
    · have HH : Hid (holdsS re fs k 0 = false) := by show _ = _; unfold holdsS; rw [if_neg hk0, if_pos rfl, Int.toNat_natCast, decide_eq_false (by rw [HRL.out]; exact hlt)]; rfl
      have hk1 : ¬ (k : Int) < (n1 : Int) := by omega
      go_enter Tryz.func50, Tryz.ntmps50
      go_upto_region 1 with fail
      refine wp_named (fun W => ∃ b0, w.heap.size = b0 ∧ Blk W b0 [.slice A1 n1 c1, .slice A2 n2 c2] ∧ Below w.heap.size w W) ⟨_, rfl, ?_, ?_⟩ ?_
      · exact Blk.new _ _ _ _ (by first | rfl | simp)
      · go_grown
      rintro W ⟨b0, e0, B0, hB⟩
      rw [e0]
      have G0 : w.heap.size ≤ b0 := by omega
      clear e0
      have ⟨L0, C0, F0⟩ := B0
      go_wp2
      go_ret
      exact ⟨ret_bool HH.out.symm, hB⟩
  have hz1 : (fact == 0) = false := by simpa using hz
  by_cases hlt : k < n2
  case neg =>
    have HH : Hid (holdsS re fs k fact = false) := by show _ = _; unfold holdsS; rw [if_neg hk0, if_neg hz, Int.toNat_natCast, decide_eq_false (by rw [HFL.out]; exact hlt)]; rfl
    have hk1 : ¬ (k : Int) < (n2 : Int) := by omega
    have hk2 : (n2 : Int) ≤ (k : Int) := by omega
    clear hz
    go_enter Tryz.func50, Tryz.ntmps50
    go_upto_region 1 with fail
    refine wp_named (fun W => ∃ b0, w.heap.size = b0 ∧ Blk W b0 [.slice A1 n1 c1, .slice A2 n2 c2] ∧ Below w.heap.size w W) ⟨_, rfl, ?_, ?_⟩ ?_
    · exact Blk.new _ _ _ _ (by first | rfl | simp)
    · go_grown
    rintro W ⟨b0, e0, B0, hB⟩
    rw [e0]
    have G0 : w.heap.size ≤ b0 := by omega
    clear e0
    have ⟨L0, C0, F0⟩ := B0
    go_wp2
    go_ret
    exact ⟨ret_bool HH.out.symm, hB⟩
  obtain ⟨b1, o1, rfl, hl1, hc1⟩ := HF.out.2 (by omega)
  obtain ⟨Ai, ni, ci, hcell, hints, hni⟩ := hc1 k hlt
  have HH : Hid (holdsS re fs k fact = decide (fact ∈ gil fs k)) := by show _ = _; unfold holdsS; rw [if_neg hk0, if_neg hz, Int.toNat_natCast, decide_eq_true (by rw [HFL.out]; exact hlt)]; rfl
  have hk1 : (k : Int) < (n2 : Int) := by omega
  have hk2 : ¬ (n2 : Int) ≤ (k : Int) := by omega
  have HI := Lib.hid hints
  clear hc1 hz hints
  go_enter Tryz.func50, Tryz.ntmps50
  go_upto_region 1 with fail
  refine wp_named (fun W => ∃ b0, w.heap.size = b0 ∧ Blk W b0 [.slice A1 n1 c1, .slice (some ⟨b1, o1, none⟩) n2 c2] ∧ Below w.heap.size w W) ⟨_, rfl, ?_, ?_⟩ ?_
  · exact Blk.new _ _ _ _ (by first | rfl | simp)
  · go_grown
  rintro W ⟨b0, e0, B0, hB⟩
  rw [e0]
  have G0 : w.heap.size ≤ b0 := by omega
  clear e0
  have ⟨L0, C0, F0⟩ := B0
  have r1 : W.cell? ⟨b1, o1 + k, none⟩ = some (.slice Ai ni ci) := (hB.cell (p := ⟨b1, _, none⟩) hl1).trans hcell
  have hl1W : b1 < W.heap.size := Nat.lt_of_lt_of_le hl1 hB.size
  have HIW := Lib.hid (HI.out.later hB)
  clear hcell
  go_wp2_with (go_at_call 51; refine (rhas_any Ai ni ci (gil fs k) fact _ HIW.out hni).mono ?_; rintro e w1 ⟨rfl, rfl⟩)
  go_ret
  exact ⟨ret_bool HH.out.symm, hB⟩
end Go.Proofs.YtmbihjlflcjlnaaGreat
