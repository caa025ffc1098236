/- The contract of the reference's nodes. -/
import Derived.Test.YtmbihjlflcjlnaaSd
namespace Go.Df.Sp
theorem nodes_node {ns : List Nd} {m e : Int} {j : Nat} (h : ∀ x, x < j → nodeErr ns x = 0) (hj : j < ns.length) (he : nodeErr ns j = e) (h0 : e ≠ 0) : nodesErr ns m = e := by
  have h1 := fe_hit h hj he h0
  unfold nodesErr
  rw [h1, if_pos h0]
theorem nodes_whole {ns : List Nd} {m e : Int} {j : Nat} (hn : ∀ x, x < ns.length → nodeErr ns x = 0) (h : ∀ x, x < j → wholeErr ns x = 0) (hj : j < ns.length) (he : wholeErr ns j = e) (h0 : e ≠ 0) : nodesErr ns m = e := by
  have h1 := fe_hit h hj he h0
  have h2 : fe (nodeErr ns) 0 ns.length = 0 := fe_ok _ 0 (fun i _ hi => hn i (by omega))
  unfold nodesErr
  rw [h2, if_neg (by simp), h1, if_pos h0]
theorem nodes_main {ns : List Nd} {m : Int} (hn : ∀ x, x < ns.length → nodeErr ns x = 0) (h : ∀ x, x < ns.length → wholeErr ns x = 0) : nodesErr ns m = mainErr ns m := by
  have h1 : fe (wholeErr ns) 0 ns.length = 0 := fe_ok _ 0 (fun i _ hi => h i (by omega))
  have h2 : fe (nodeErr ns) 0 ns.length = 0 := fe_ok _ 0 (fun i _ hi => hn i (by omega))
  unfold nodesErr
  rw [h2, if_neg (by simp), h1, if_neg (by simp)]
end Go.Df.Sp
namespace Go.Proofs.Ytmbihjlflcjlnaa
open Go.RowKit Go.Df
attribute [local go_sem ↓] Go.wp_at_zero Go.wp_at_succ

set_option maxRecDepth 100000 in
set_option maxHeartbeats 2000000 in
theorem nodes_any (A1 A2 : Option Addr) (n1 c1 n2 c2 : Nat) (mn : Int) (ns : List Sp.Nd) (w : World) (hn : Nds w A1 n1 ns) (hs : n1 ≤ 1000000) :
    Calls Try.prog 35 #[.agg #[.slice A1 n1 c1, .slice A2 n2 c2, .int .i64 mn]] w fun e w' => e = .returned (.int .i64 (Sp.nodesErr ns mn)) ∧ Below w.heap.size w w' := by
  have HN := Lib.hid hn
  have HL := Lib.hid hn.1
  clear hn
  go_enter Try.func35, Try.ntmps35
  go_upto_region 1 with fail
  refine wp_named (fun W => ∃ b0, w.heap.size = b0 ∧ Blk W b0 [.slice A1 n1 c1, .slice A2 n2 c2, .int .i64 mn] ∧ Below w.heap.size w W) ⟨_, rfl, ?_, ?_⟩ ?_
  · exact Blk.new _ _ _ _ (by first | rfl | simp)
  · go_grown
  rintro W ⟨b0, e0, B0, hB⟩
  rw [e0]
  have G0 : w.heap.size ≤ b0 := by omega
  clear e0
  have ⟨L0, C0, F0⟩ := B0
  have HW := Lib.hid (HN.out.later hB)
  go_wp2_with fail
  go_loopw [3] (fun i wr => ∃ j : Nat, j ≤ n1 ∧ i = .int .i64 j ∧ Kept [] W wr ∧ Hid (∀ x, x < j → Sp.nodeErr ns x = 0)) (fun i _ => n1 - (intOf i).toNat)
  case atStart => exact ⟨0, Nat.zero_le _, rfl, Kept.refl _ _, Lib.hid (fun j hj => absurd hj (by omega))⟩
  case round =>
    obtain ⟨j, hj, rfl, hkr, hno⟩ := hrel
    have BR := hkr.blk (by simp) B0
    have ⟨LR, CR, FR⟩ := BR
    clear C0 F0
    by_cases hlt : j < n1
    · obtain ⟨b, o, rfl, hl, hc⟩ := (HW.out.kept hkr).2 (by omega)
      obtain ⟨h1, h2, h3⟩ := hc j hlt
      have HC := Lib.hid hc
      have LB := Lib.hid hl
      clear hc
      obtain ⟨nf, nk, ni, en⟩ : ∃ nf nk ni, gn ns j = ⟨nf, nk, ni⟩ := ⟨_, _, _, rfl⟩
      rw [en] at h1 h2 h3
      have HE := Lib.hid en
      clear en
      go_upto_region 5 with fail
      refine wp_named (fun V => ∃ g, wr.heap.size = g ∧ Blk V g [.int .i64 nf, .int .i64 nk, .int .i64 ni] ∧ Kept [] wr V) ⟨_, rfl, Blk.new _ _ _ _ rfl, (Kept.refl _ _).alloc _⟩ ?_
      rintro V ⟨g, eg, Bg, hkV⟩
      rw [eg]
      have hkw : Kept [] W V := keptTrans hkr hkV
      have BV := hkw.blk (by simp) B0
      have ⟨LV, CV, FV⟩ := BV
      have ⟨LG, CG, FG⟩ := Bg
      have hBV := hkw.below hB hB.size (by simp)
      clear CR FR h1 h2 h3 eg
      by_cases hk2 : nk = 2
      all_goals
        first
          | (have k1 : (nk == 2) = true := by simpa using hk2)
          | (have k1 : (nk == 2) = false := by simpa using hk2)
        first
          | (have k2 : (nk != 2) = false := by simpa using hk2)
          | (have k2 : (nk != 2) = true := by simpa using hk2)
        by_cases hi1 : ni = -1
        all_goals
          first
            | (have k3 : (ni != -1) = false := by simpa using hi1)
            | (have k3 : (ni != -1) = true := by simpa using hi1)
          have HK := Lib.hid hk2
          have HI := Lib.hid hi1
          clear hk2 hi1
          go_upto_region 9 with fail
          all_goals first
            | (go_ret; exact ⟨ret_int (Sp.nodes_node (e := 12) hno.out (by rw [HL.out]; exact hlt) (by unfold Sp.nodeErr; rw [HE.out]; dsimp only; rw [if_pos (by have := HK.out; have := HI.out; omega)]) (by omega)).symm, hBV⟩)
            | (go_ret; exact ⟨ret_int (Sp.nodes_node (e := 4) hno.out (by rw [HL.out]; exact hlt) (by unfold Sp.nodeErr; rw [HE.out]; dsimp only; rw [if_neg (by have := HK.out; have := HI.out; omega), if_pos (by have := HK.out; have := HI.out; omega)]) (by omega)).symm, hBV⟩)
            | skip
          all_goals
            have hz : Hid (Sp.nodeErr ns j = if 0 < j ∧ Sp.lessN (gn ns (j - 1)) ⟨nf, nk, ni⟩ = false then 13 else 0) := by
              show Sp.nodeErr ns j = _
              unfold Sp.nodeErr
              rw [HE.out]
              dsimp only
              rw [if_neg (by have := HK.out; have := HI.out; omega), if_neg (by have := HK.out; have := HI.out; omega)]
            have hno1 : Hid (Sp.nodeErr ns j = 0 → ∀ x, x < j + 1 → Sp.nodeErr ns x = 0) := fun h0 x hx => by
              rcases Nat.lt_or_ge x j with h9 | h9
              · exact hno.out x h9
              · obtain rfl : x = j := by omega
                exact h0
            by_cases hj0 : j = 0
            · have y1 : decide (0 < j) = false := by simp; omega
              have y2 : decide ((0 : Int) < (j : Int)) = false := by simp; omega
              have hfin : Hid (∀ x, x < j + 1 → Sp.nodeErr ns x = 0) := hno1.out (by rw [hz.out, if_neg (by omega)])
              clear hj0
              go_quiet (fail)
              go_wp2_with fail
              exact ⟨⟨j + 1, by omega, by go_num, hkw.drewN _, hfin⟩, by simp [intOf]; omega⟩
            · have y1 : decide (0 < j) = true := by simp; omega
              have y2 : decide ((0 : Int) < (j : Int)) = true := by simp; omega
              have y3 : IntKind.i64.wrap ((j : Int) - 1) = (j : Int) - 1 := IntWalk.i64_in _ (by omega)
              have y4 : (0 : Int) ≤ (j : Int) - 1 := by omega
              have y5 : ((j : Int) - 1).toNat = j - 1 := by omega
              have y6 : (j : Int) - 1 < (n1 : Int) := by omega
              have y7 : 0 < j := by omega
              have y8 : 1 ≤ j := by omega
              have y9 : (1 : Int) ≤ (j : Int) := by omega
              have y10 : j ≤ n1 := by omega
              have y11 : j < n1 + 1 := by omega
              have y12 : (j : Int) < (n1 : Int) + 1 := by omega
              have y13 : (j : Int) ≤ (n1 : Int) := by omega
              obtain ⟨p1, p2, p3⟩ := HC.out (j - 1) (by omega)
              obtain ⟨pf, pk, pi, ep⟩ : ∃ pf pk pi, gn ns (j - 1) = ⟨pf, pk, pi⟩ := ⟨_, _, _, rfl⟩
              rw [ep] at p1 p2 p3
              have q1 : V.cell? ⟨b, o + (j - 1) * 3, none⟩ = some (.int .i64 pf) := (hkV.cell b _ LB.out (by simp)).trans p1
              have q2 : V.cell? ⟨b, o + (j - 1) * 3 + 1, none⟩ = some (.int .i64 pk) := (hkV.cell b _ LB.out (by simp)).trans p2
              have q3 : V.cell? ⟨b, o + (j - 1) * 3 + 2, none⟩ = some (.int .i64 pi) := (hkV.cell b _ LB.out (by simp)).trans p3
              have hbV : b < V.heap.size := Nat.lt_of_lt_of_le LB.out hkV.size
              have HPe := Lib.hid ep
              clear p1 p2 p3 ep hj0
              go_cut [54] (fun s wx => s = .bool (!Sp.lessN ⟨pf, pk, pi⟩ ⟨nf, nk, ni⟩) ∧ Kept [] V wx)
              case first =>
                go_region_held3 (fun w' => SX0 V w') (repeat' first | (with_reducible assumption) | (with_reducible exact SX0.init _) | (with_reducible exact SX0.refl _) | (with_reducible refine SX0.alloc ?_ _) | (with_reducible refine SX0.call ?_ (by assumption)) | (with_reducible refine SX0.set ?_ _ _ _ ?_) | (with_reducible refine SX0.drew ?_) | (simp; done) | omega | (simp; omega))
                  (first | (go_at_call 41; ((with_reducible refine (less_any pf pk pi nf nk ni _).mono ?_)); rintro e w3 ⟨rfl, hb3⟩; obtain ⟨hc3, hf3, hg3⟩ := bcell hb3; have hz3 := hb3.size; try simp at hz3))
                all_goals
                  go_wp2_with fail
                  go_meet
                  refine ⟨rfl, ?_⟩
                  (repeat' first | (with_reducible assumption) | (with_reducible exact Kept.refl _ _) | (with_reducible refine Kept.alloc ?_ _) | (with_reducible refine Kept.call ?_ (by assumption)) | (with_reducible refine Kept.set ?_ _ _ _ (Or.inr ?_)) | (with_reducible refine Kept.drew ?_) | (simp; done) | omega | (simp; omega))
              case rest =>
                obtain ⟨rfl, hkc⟩ := hcut
                have hkwc : Kept [] W wc := keptTrans hkw hkc
                have hBc := hkwc.below hB hB.size (by simp)
                by_cases hles : Sp.lessN ⟨pf, pk, pi⟩ ⟨nf, nk, ni⟩ = true
                · rw [hles]
                  have hfin : Hid (∀ x, x < j + 1 → Sp.nodeErr ns x = 0) := hno1.out (by rw [hz.out, HPe.out, hles, if_neg (by simp)])
                  clear hles
                  go_wp2_with fail
                  exact ⟨⟨j + 1, by omega, by go_num, hkwc, hfin⟩, by simp [intOf]; omega⟩
                · rw [Bool.not_eq_true] at hles
                  rw [hles]
                  have hfin : Hid (Sp.nodeErr ns j = 13) := by
                    show Sp.nodeErr ns j = 13
                    rw [hz.out, HPe.out, hles, if_pos ⟨by omega, rfl⟩]
                  clear hles
                  go_wp2_with fail
                  go_ret
                  exact ⟨ret_int (Sp.nodes_node hno.out (by rw [HL.out]; exact hlt) hfin.out (by omega)).symm, hBc⟩
    · obtain rfl : j = n1 := by omega
      have k1 : decide (j < j) = false := by simp
      have hall : Hid (∀ x, x < ns.length → Sp.nodeErr ns x = 0) := fun x hx => hno.out x (by rw [HL.out] at hx; exact hx)
      clear hno
      go_wp2_with fail
      go_loopw [5] (fun i wz => ∃ q : Nat, q ≤ j ∧ i = .int .i64 q ∧ Kept [] W wz ∧ Hid (∀ x, x < q → Sp.wholeErr ns x = 0)) (fun i _ => j - (intOf i).toNat)
      case atStart => exact ⟨0, Nat.zero_le _, rfl, hkr, Lib.hid (fun j hj => absurd hj (by omega))⟩
      case round =>
        obtain ⟨q, hq, rfl, hkz, hno⟩ := hrel
        have BZ := hkz.blk (by simp) B0
        have ⟨LZ, CZ, FZ⟩ := BZ
        clear CR FR
        have hBz := hkz.below hB hB.size (by simp)
        by_cases hlt2 : q < j
        · obtain ⟨b, o, rfl, hl, hc⟩ := (HW.out.kept hkz).2 (by omega)
          obtain ⟨h1, h2, h3⟩ := hc q hlt2
          clear hc h2 h3
          have q1 : decide (q < j) = true := by simp; omega
          have q2 : decide ((q : Int) < (j : Int)) = true := by simp; omega
          go_wp2_with fail
          refine (exit_any _ _ _ _ _ _ _ _ ns _ (HW.out.kept hkz) hs).mono ?_
          rintro e w3 ⟨rfl, hb3⟩
          have hk3 : Kept [] W w3 := hkz.call hb3
          have B3 := hk3.blk (by simp) B0
          have ⟨L3, C3, F3⟩ := B3
          clear CZ FZ h1
          go_wp2_with fail
          refine (start_any _ _ _ _ _ _ _ _ ns _ (HW.out.kept hk3) hs).mono ?_
          rintro e w4 ⟨rfl, hb4⟩
          have hk4 : Kept [] W w4 := hk3.call hb4
          have hB4 := hk4.below hB hB.size (by simp)
          have hwe : Hid (Sp.wholeErr ns q = if Sp.kindAt ns (gn ns q).f 1 < 0 ∨ Sp.kindAt ns (gn ns q).f 3 < 0 ∨ Sp.kindAt ns (gn ns q).f 4 < 0 then 1 else 0) := Lib.hid rfl
          generalize Sp.kindAt ns (gn ns q).f 1 = s1 at *
          generalize Sp.kindAt ns (gn ns q).f 3 = s3 at *
          generalize Sp.kindAt ns (gn ns q).f 4 = s4 at *
          clear C3 F3
          have hfin : Hid (¬ (s1 < 0 ∨ s3 < 0 ∨ s4 < 0) → ∀ x, x < q + 1 → Sp.wholeErr ns x = 0) := fun h0 x hx => by
            rcases Nat.lt_or_ge x q with h9 | h9
            · exact hno.out x h9
            · obtain rfl : x = q := by omega
              rw [hwe.out, if_neg h0]
          go_wp2_with fail
          all_goals first
            | (go_ret; exact ⟨ret_int (Sp.nodes_whole hall.out hno.out (by rw [HL.out]; exact hlt2) (e := 1) (by rw [hwe.out, if_pos (by omega)]) (by omega)).symm, hB4⟩)
            | exact ⟨⟨q + 1, by omega, by go_num, hk4, Lib.hid (hfin.out (by omega))⟩, by simp [intOf]; omega⟩
        · obtain rfl : q = j := by omega
          have q1 : decide (q < q) = false := by simp
          have hw : Hid (∀ x, x < ns.length → Sp.wholeErr ns x = 0) := fun x hx => hno.out x (by rw [HL.out] at hx; exact hx)
          have hm : Hid (Sp.nodesErr ns mn = if mn < 0 ∨ (q : Int) ≤ mn ∨ (gn ns mn.toNat).k ≠ 1 then 14 else 0) := by
            show Sp.nodesErr ns mn = _
            rw [Sp.nodes_main hall.out hw.out, Sp.mainErr, HL.out]
          clear hno
          by_cases m0 : mn < 0
          · have z1 : decide (mn < 0) = true := by simpa using m0
            go_wp2_with fail
            go_ret
            exact ⟨ret_int (by rw [hm.out, if_pos (by omega)]), hBz⟩
          · have z1 : decide (mn < 0) = false := by simpa using m0
            by_cases m1 : (q : Int) ≤ mn
            · have z2 : decide ((q : Int) ≤ mn) = true := by simpa using m1
              go_wp2_with fail
              go_ret
              exact ⟨ret_int (by rw [hm.out, if_pos (by omega)]), hBz⟩
            · have z2 : decide ((q : Int) ≤ mn) = false := by simpa using m1
              obtain ⟨mm, rfl⟩ := Int.eq_ofNat_of_zero_le (show 0 ≤ mn by omega)
              obtain ⟨b, o, rfl, hl, hc⟩ := (HW.out.kept hkz).2 (by omega)
              obtain ⟨h1, h2, h3⟩ := hc mm (by omega)
              clear hc h1 h3
              have hmm : mm < q := by omega
              rw [Int.toNat_natCast] at hm
              by_cases m2 : (gn ns mm).k = 1
              · have z3 : ((gn ns mm).k != 1) = false := by simp [m2]
                have M2 := Lib.hid m2
                clear m2
                go_wp2_with fail
                go_ret
                exact ⟨ret_int (by rw [hm.out, if_neg (by have := M2.out; omega)]), hBz⟩
              · have z3 : ((gn ns mm).k != 1) = true := by simp [m2]
                go_wp2_with fail
                go_ret
                exact ⟨ret_int (by rw [hm.out, if_pos (.inr (.inr m2))]), hBz⟩
end Go.Proofs.Ytmbihjlflcjlnaa
