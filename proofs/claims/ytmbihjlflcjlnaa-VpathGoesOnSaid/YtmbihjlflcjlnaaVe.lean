/- The contracts of small, pair, awake of the law, and of Equal. -/
import Derived.Test.YtmbihjlflcjlnaaVd
namespace Go.Df
open Go.RowKit
theorem Ints.of_blk {w : World} {b : Nat} {xs : List Int} (h : Blk w b (xs.map (Value.int .i64))) : Ints w (some ⟨b, 0, none⟩) xs.length xs :=
  ⟨rfl, fun _ => ⟨b, 0, rfl, h.1, fun i hi => by rw [Nat.zero_add, h.2.1 i, map_gi hi]⟩⟩
namespace Sp
/-- The law's example. -/
def pns : List Nd := [⟨0, 1, -1⟩, ⟨0, 2, 0⟩, ⟨0, 3, -1⟩, ⟨0, 4, -1⟩, ⟨1, 1, -1⟩, ⟨1, 3, -1⟩, ⟨1, 4, -1⟩]
def pes : List Ed := [⟨0, 1, 1, -1⟩, ⟨1, 4, 2, 1⟩, ⟨4, 5, 1, -1⟩, ⟨5, 2, 3, 1⟩]
theorem pf1 : followS pns pes 0 0 [0, 1] = (0, 4, [1]) := by decide +kernel
theorem pf2 : followS pns pes 0 0 [0, 1, 2, 3] = (0, 2, []) := by decide +kernel
theorem pf3 : followS pns pes 0 5 [3] = (20, 0, []) := by decide +kernel
theorem pb2 : balS pns pes 0 0 [0, 1, 2, 3] = true := by decide +kernel
end Sp
theorem pair_gr {w : World} {a b : Nat} (ha : Blk w a (Sp.pns.flatMap Sp.Nd.cs)) (hb : Blk w b (Sp.pes.flatMap Sp.Ed.cs)) : Gr w (some ⟨a, 0, none⟩) 7 (some ⟨b, 0, none⟩) 4 Sp.pns Sp.pes := by
  refine ⟨⟨rfl, fun _ => ⟨a, 0, rfl, ha.1, fun i hi => ?_⟩⟩, ⟨rfl, fun _ => ⟨b, 0, rfl, hb.1, fun i hi => ?_⟩⟩, fun j hj => ?_, fun j hj => ?_⟩
  · rw [ha.2.1, ha.2.1, ha.2.1]
    match i, hi with
    | 0, _ => exact ⟨rfl, rfl, rfl⟩
    | 1, _ => exact ⟨rfl, rfl, rfl⟩
    | 2, _ => exact ⟨rfl, rfl, rfl⟩
    | 3, _ => exact ⟨rfl, rfl, rfl⟩
    | 4, _ => exact ⟨rfl, rfl, rfl⟩
    | 5, _ => exact ⟨rfl, rfl, rfl⟩
    | 6, _ => exact ⟨rfl, rfl, rfl⟩
  · rw [hb.2.1, hb.2.1, hb.2.1, hb.2.1]
    match i, hi with
    | 0, _ => exact ⟨rfl, rfl, rfl, rfl⟩
    | 1, _ => exact ⟨rfl, rfl, rfl, rfl⟩
    | 2, _ => exact ⟨rfl, rfl, rfl, rfl⟩
    | 3, _ => exact ⟨rfl, rfl, rfl, rfl⟩
  · match j, hj with
    | 0, _ => rfl
    | 1, _ => rfl
    | 2, _ => rfl
    | 3, _ => rfl
    | 4, _ => rfl
    | 5, _ => rfl
    | 6, _ => rfl
  · match j, hj with
    | 0, _ => exact ⟨rfl, rfl⟩
    | 1, _ => exact ⟨rfl, rfl⟩
    | 2, _ => exact ⟨rfl, rfl⟩
    | 3, _ => exact ⟨rfl, rfl⟩
end Go.Df
namespace Go.Proofs.Ytmbihjlflcjlnaa
open Go.RowKit Go.Df
attribute [local go_sem ↓] Go.wp_at_zero Go.wp_at_succ

theorem small_any (A1 A2 : Option Addr) (n1 c1 n2 c2 : Nat) (mn : Int) (v : Bool) (hv : v = (decide (n1 ≤ 40) && decide (n2 ≤ 120))) (w : World) :
    Calls Try.prog 4 #[.agg #[.slice A1 n1 c1, .slice A2 n2 c2, .int .i64 mn]] w fun e w' => e = .returned (.bool v) ∧ Below w.heap.size w w' := by
  go_enter Try.func4, Try.ntmps4
  go_upto_region 1 with fail
  refine wp_named (fun W => ∃ b0, w.heap.size = b0 ∧ Blk W b0 [.slice A1 n1 c1, .slice A2 n2 c2, .int .i64 mn] ∧ Below w.heap.size w W) ⟨_, rfl, ?_, ?_⟩ ?_
  · exact Blk.new _ _ _ _ (by first | rfl | simp)
  · go_grown
  rintro W ⟨b0, e0, B0, hB⟩
  rw [e0]
  have G0 : w.heap.size ≤ b0 := by omega
  clear e0
  have ⟨L0, C0, F0⟩ := B0
  have HV := Lib.hid hv
  clear hv
  by_cases h1 : n1 ≤ 40
  · have d1 : decide ((n1 : Int) ≤ 40) = true := by simp; omega
    have d1' : decide (n1 ≤ 40) = true := by simpa using h1
    by_cases h2 : n2 ≤ 120
    · have d2 : decide ((n2 : Int) ≤ 120) = true := by simp; omega
      have d2' : decide (n2 ≤ 120) = true := by simpa using h2
      go_wp2_with fail
      go_ret
      exact ⟨ret_bool (by rw [HV.out, d1', d2']; rfl), hB⟩
    · have d2 : decide ((n2 : Int) ≤ 120) = false := by simp; omega
      have d2' : decide (n2 ≤ 120) = false := by simpa using h2
      go_wp2_with fail
      go_ret
      exact ⟨ret_bool (by rw [HV.out, d1', d2']; rfl), hB⟩
  · have d1 : decide ((n1 : Int) ≤ 40) = false := by simp; omega
    have d1' : decide (n1 ≤ 40) = false := by simpa using h1
    go_wp2_with fail
    go_ret
    exact ⟨ret_bool (by rw [HV.out, d1']; rfl), hB⟩

set_option maxRecDepth 100000 in
set_option maxHeartbeats 2000000 in
theorem pair_any (w : World) :
    Calls Try.prog 12 #[] w fun e w' => ∃ a b, e = .returned (.agg #[.slice (some ⟨a, 0, none⟩) 7 7, .slice (some ⟨b, 0, none⟩) 4 4, .int .i64 0]) ∧ Gr w' (some ⟨a, 0, none⟩) 7 (some ⟨b, 0, none⟩) 4 Sp.pns Sp.pes ∧ Below w.heap.size w w' := by
  go_enter Try.func12, Try.ntmps12
  go_wp2_with fail
  try simp only [Exit.inBlock, Exit.then]
  refine post_named (fun X => Blk X w.heap.size [.slice (some ⟨w.heap.size + 1, 0, none⟩) 7 7, .slice (some ⟨w.heap.size + 1 + 1, 0, none⟩) 4 4, .int .i64 0] ∧ Blk X (w.heap.size + 1) (Sp.pns.flatMap Sp.Nd.cs) ∧ Blk X (w.heap.size + 1 + 1) (Sp.pes.flatMap Sp.Ed.cs) ∧ Below w.heap.size w X) ⟨?_, ?_, ?_, ?_⟩ ?_
  · exact Blk.alloc (Blk.alloc (Blk.new _ [_, _, _] _ _ rfl) _) _
  · exact Blk.alloc (Blk.new _ (Sp.pns.flatMap Sp.Nd.cs) _ _ (by simp)) _
  · exact Blk.new _ (Sp.pes.flatMap Sp.Ed.cs) _ _ (by simp)
  · go_grown
  rintro X ⟨BX, Ba, Bb, hX⟩
  have ⟨LX, CX, FX⟩ := BX
  refine bodyPost_ret (by simp [results, Try.results12, go_sem, CX]; try rfl) rfl ?_
  exact ⟨_, _, rfl, pair_gr Ba Bb, hX⟩

set_option maxRecDepth 100000 in
theorem equal_any (A B : Option Addr) (n c m d : Nat) (xs ys : List Int) (w : World) (hx : Ints w A n xs) (hy : Ints w B m ys) (hn : n ≤ 1000000) :
    Calls Try.prog 10 #[.slice A n c, .slice B m d] w fun e w' => e = .returned (.bool (decide (xs = ys))) ∧ Below w.heap.size w w' := by
  have HX := Lib.hid hx
  have HY := Lib.hid hy
  have HLx := Lib.hid hx.1
  have HLy := Lib.hid hy.1
  clear hx hy
  go_enter Try.func10, Try.ntmps10
  by_cases hnm : n = m
  case neg =>
    have h1 : ((n : Int) != (m : Int)) = true := by simp; omega
    have h2 : (n != m) = true := by simp; omega
    have HF : Hid (decide (xs = ys) = false) := by
      show _ = _
      rw [decide_eq_false_iff_not]
      intro hh
      have h3 := HLx.out
      have h4 := HLy.out
      rw [hh] at h3
      omega
    go_wp2_with fail
    go_ret
    exact ⟨ret_bool HF.out.symm, Below.refl _ _⟩
  subst hnm
  have h1 : ((n : Int) != (n : Int)) = false := by simp
  have h2 : (n != n) = false := by simp
  go_wp2_with fail
  go_loopw [5] (fun i wr => ∃ j : Nat, j ≤ n ∧ i = .int .i64 j ∧ Kept [] w wr ∧ Hid (∀ x, x < j → gi xs x = gi ys x)) (fun i _ => n - (intOf i).toNat)
  case atStart => exact ⟨0, Nat.zero_le _, rfl, Kept.refl _ _, Lib.hid (fun x hx => absurd hx (by omega))⟩
  case round =>
    obtain ⟨j, hj, rfl, hkr, heq⟩ := hrel
    have hBr := hkr.toBelow
    by_cases hlt : j < n
    · obtain ⟨b, o, rfl, hl, hc⟩ := (HX.out.kept hkr).2 (by omega)
      obtain ⟨b', o', rfl, hl', hc'⟩ := (HY.out.kept hkr).2 (by omega)
      have p1 := hc j hlt
      have p2 := hc' j hlt
      clear hc hc'
      obtain ⟨u, hu⟩ : ∃ u, gi xs j = u := ⟨_, rfl⟩
      obtain ⟨v, hv⟩ : ∃ v, gi ys j = v := ⟨_, rfl⟩
      rw [hu] at p1
      rw [hv] at p2
      by_cases huv : u = v
      · have h3 : (u != v) = false := by simpa using huv
        have hfin : Hid (∀ x, x < j + 1 → gi xs x = gi ys x) := fun x hx => by
          rcases Nat.lt_or_ge x j with h9 | h9
          · exact heq.out x h9
          · obtain rfl : x = j := by omega
            rw [hu, hv, huv]
        clear hu hv huv
        go_upto_region 6 with fail
        go_quiet (fail)
        go_wp2_with fail
        exact ⟨⟨j + 1, by omega, by go_num, hkr.drewN _, hfin⟩, by simp [intOf]; omega⟩
      · have h3 : (u != v) = true := by simpa using huv
        have HF : Hid (decide (xs = ys) = false) := by
          show _ = _
          rw [decide_eq_false_iff_not]
          intro hh
          exact huv (by rw [← hu, ← hv, hh])
        clear hu hv huv
        go_upto_region 6 with fail
        go_quiet (fail)
        go_wp2_with fail
        go_ret
        exact ⟨ret_bool HF.out.symm, (hkr.drewN _).toBelow⟩
    · obtain rfl : j = n := by omega
      have HF : Hid (decide (xs = ys) = true) := by
        show _ = _
        rw [decide_eq_true_iff]
        have h3 := HLx.out
        have h4 := HLy.out
        refine List.ext_getElem (by omega) (fun i hi hi' => ?_)
        have := heq.out i (by omega)
        rwa [gi_lt hi, gi_lt hi'] at this
      go_wp2_with fail
      go_ret
      exact ⟨ret_bool HF.out.symm, hBr⟩

set_option maxRecDepth 100000 in
set_option maxHeartbeats 2000000 in
theorem awake_any (w : World) : Calls Try.prog 6 #[] w fun e w' => e = .returned (.bool true) ∧ Below w.heap.size w w' := by
  go_enter Try.func6, Try.ntmps6
  go_wp2_with fail
  refine (pair_any _).mono ?_
  rintro e w0 ⟨a, b, rfl, hg, hb0⟩
  have HG := Lib.hid hg
  clear hg
  go_upto_region 2 with fail
  refine wp_named (fun V => ∃ g, w0.heap.size = g ∧ Blk V g [.slice (some ⟨a, 0, none⟩) 7 7, .slice (some ⟨b, 0, none⟩) 4 4, .int .i64 0] ∧ Kept [] w0 V) ⟨_, rfl, Blk.new _ _ _ _ rfl, (Kept.refl _ _).alloc _⟩ ?_
  rintro V ⟨g, eg, BV, hkV⟩
  rw [eg]
  have HGV := Lib.hid (HG.out.kept hkV)
  have hBV : Below w.heap.size w V := hkV.below hb0 hb0.size (by simp)
  have ⟨LV, CV, FV⟩ := BV
  have hk0 : Kept [] V V := Kept.refl _ _
  clear eg
  go_wp2_with (first | (go_at_call 13; refine (stack_any _ _ _ _ _ _ _ _ _ 0 0 Sp.pns Sp.pes [0, 1] _ (HGV.out.kept (hk0.alloc _)) (Ints.of_blk (xs := [0, 1]) (Blk.new _ _ _ _ rfl)) (by rw [Sp.pf1]; decide)).mono ?_; rintro e w1 ⟨SA, sn, sc, rfl, si, -, hb1⟩; rw [Sp.pf1] at si; obtain ⟨si1, si2⟩ := si; obtain rfl : 1 = sn := si1; obtain ⟨sb, so, rfl, sl, scell⟩ := si2 (by omega); have sc0 := scell 0 (by omega); rw [Nat.add_zero, show gi [1].reverse 0 = 1 from rfl] at sc0; rw [Sp.pf1]; clear scell si2 CV FV; have hk1 : Kept [] V w1 := (hk0.alloc _).call hb1; have ⟨L1, C1, F1⟩ := hk1.blk (by simp) BV))
  go_upto_region 3 with fail
  go_wp2_with (first | (go_at_call 14; refine (end_any _ _ _ _ _ _ _ _ _ 0 0 Sp.pns Sp.pes [0, 1, 2, 3] _ (HGV.out.kept (hk1.alloc _)) (Ints.of_blk (xs := [0, 1, 2, 3]) (Blk.new _ _ _ _ rfl))).mono ?_; rintro e w2 ⟨rfl, hb2⟩; rw [Sp.pf2]; have hk12 : Kept [] w1 w2 := ((Kept.refl _ _).alloc _).call hb2; have sc2 := (hk12.cell sb so sl (by simp)).trans sc0; have sl2 := Nat.lt_of_lt_of_le sl hk12.size; clear C1 F1; have hk2 : Kept [] V w2 := (hk1.alloc _).call hb2; have ⟨L2, C2, F2⟩ := hk2.blk (by simp) BV) | (go_at_call 15; refine (bal_any _ _ _ _ _ _ _ _ _ 0 0 Sp.pns Sp.pes [0, 1, 2, 3] _ (HGV.out.kept (hk2.alloc _)) (Ints.of_blk (xs := [0, 1, 2, 3]) (Blk.new _ _ _ _ rfl))).mono ?_; rintro e w3 ⟨rfl, hb3⟩; rw [Sp.pb2]; clear C2 F2; have hk3 : Kept [] V w3 := (hk2.alloc _).call hb3; have ⟨L3, C3, F3⟩ := hk3.blk (by simp) BV) | (go_at_call 8; refine (pcheck_any _ _ _ _ _ _ _ _ _ 0 5 Sp.pns Sp.pes [3] _ (HGV.out.kept (hk3.alloc _)) (Ints.of_blk (xs := [3]) (Blk.new _ _ _ _ rfl))).mono ?_; rintro e w4 ⟨rfl, hb4⟩; rw [Sp.pf3]; clear C3 F3; have hk4 : Kept [] V w4 := (hk3.alloc _).call hb4; have ⟨L4, C4, F4⟩ := hk4.blk (by simp) BV))
  go_ret
  exact ⟨rfl, hk4.below hBV hBV.size (by simp)⟩
end Go.Proofs.Ytmbihjlflcjlnaa
