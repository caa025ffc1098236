/- Texts: Sd Se Sf Sg. -/
import Derived.Test.YtooejoajojanjaaGreatDoorXSf01
namespace Go.Df.Sp
def fe (err : Nat → Int) : Nat → Nat → Int
 | _, 0 => 0
 | k, n + 1 => if err k = 0 then fe err (k + 1) n else err k
theorem fe_from (err : Nat → Int) (n : Nat) : ∀ (k j : Nat), (∀ i, k ≤ i → i < j → err i = 0) → k ≤ j → j < k + n → err j ≠ 0 → fe err k n = err j := by
 induction n with
 | zero => intro k j _ h1 h2; omega
 | succ n ih =>
   intro k j h h1 h2 h3
   rw [fe]
   rcases Nat.lt_or_ge k j with h4 | h4
   · rw [if_pos (h k (Nat.le_refl _) h4)]
     exact ih (k + 1) j (fun i hi hj => h i (by omega) hj) (by omega) (by omega) h3
   · obtain rfl : k = j := by omega
     rw [if_neg h3]
theorem fe_hit {err : Nat → Int} {n j : Nat} {e : Int} (h : ∀ i, i < j → err i = 0) (hj : j < n) (he : err j = e) (h0 : e ≠ 0) : fe err 0 n = e := by
 subst he
 exact fe_from err n 0 j (fun i _ hi => h i hi) (Nat.zero_le _) (by omega) h0
theorem fe_ok {err : Nat → Int} (n : Nat) : ∀ k, (∀ i, k ≤ i → i < k + n → err i = 0) → fe err k n = 0 := by
 induction n with
 | zero => intro k _; rfl
 | succ n ih =>
   intro k h
   rw [fe, if_pos (h k (Nat.le_refl _) (by omega))]
   exact ih (k + 1) (fun i hi hj => h i (by omega) (by omega))
theorem fe_zero {err : Nat → Int} (n : Nat) : ∀ k, fe err k n = 0 → ∀ i, k ≤ i → i < k + n → err i = 0 := by
 induction n with
 | zero => intro k _ i h1 h2; omega
 | succ n ih =>
   intro k h i h1 h2
   rw [fe] at h
   by_cases e : err k = 0
   · rw [if_pos e] at h
     rcases Nat.eq_or_lt_of_le h1 with rfl | h3
     · exact e
     · exact ih (k + 1) h i (by omega) (by omega)
   · rw [if_neg e] at h; exact absurd h e
def nodeErr (ns : List Nd) (j : Nat) : Int :=
 if (gn ns j).k < 1 ∨ 4 < (gn ns j).k then 12
 else if (gn ns j).f < 0 ∨ ((gn ns j).k = 2 ∧ (gn ns j).i < 0) ∨ ((gn ns j).k ≠ 2 ∧ (gn ns j).i ≠ -1) then 4
 else if 0 < j ∧ lessN (gn ns (j - 1)) (gn ns j) = false then 13 else 0
def wholeErr (ns : List Nd) (j : Nat) : Int :=
 if kindAt ns (gn ns j).f 1 < 0 ∨ kindAt ns (gn ns j).f 3 < 0 ∨ kindAt ns (gn ns j).f 4 < 0 then 1 else 0
def mainErr (ns : List Nd) (m : Int) : Int := if m < 0 ∨ (ns.length : Int) ≤ m ∨ (gn ns m.toNat).k ≠ 1 then 14 else 0
def nodesErr (ns : List Nd) (m : Int) : Int :=
 if fe (nodeErr ns) 0 ns.length ≠ 0 then fe (nodeErr ns) 0 ns.length else if fe (wholeErr ns) 0 ns.length ≠ 0 then fe (wholeErr ns) 0 ns.length else mainErr ns m
end Go.Df.Sp
namespace Go.Proofs.YtooejoajojanjaaGreatDoor
open Go.RowKit Go.Df
attribute [local go_sem ↓] Go.wp_at_zero Go.wp_at_succ
set_option maxHeartbeats 1000000 in
theorem start_any (A1 A2 : Option Addr) (n1 c1 n2 c2 : Nat) (mn f : Int) (ns : List Sp.Nd) (w : World) (hn : Nds w A1 n1 ns) (hs : n1 ≤ 1000000) :
   Calls Tryz.prog 145 #[.agg #[.slice A1 n1 c1, .slice A2 n2 c2, .int .i64 mn], .int .i64 f] w fun e w' => e = .returned (.int .i64 (Sp.kindAt ns f 1)) ∧ Below w.heap.size w w' := by
 have HN := Lib.hid hn
 clear hn
 go_enter Tryz.func145, Tryz.ntmps145
 go_upto_region 1 with fail
 refine wp_named (fun W => ∃ b0, w.heap.size = b0 ∧ Blk W b0 [.slice A1 n1 c1, .slice A2 n2 c2, .int .i64 mn] ∧ Below w.heap.size w W) ⟨_, rfl, ?_, ?_⟩ ?_
 · exact kbn
 · go_grown
 rintro W ⟨b0, e0, B0, hB⟩
 rw [e0]
 have G0 : w.heap.size ≤ b0 := by omega
 clear e0
 have ⟨L0, C0, F0⟩ := B0
 go_wp2_with fail
 refine (kind_any _ _ _ _ _ _ _ _ _ ns _ (HN.out.later hB) hs).mono ?_
 rintro e w1 ⟨rfl, hb1⟩
 go_wp2_with fail
 go_ret
 exact ⟨rfl, below_step hB.size hB hb1⟩
set_option maxHeartbeats 1000000 in
theorem exit_any (A1 A2 : Option Addr) (n1 c1 n2 c2 : Nat) (mn f : Int) (ns : List Sp.Nd) (w : World) (hn : Nds w A1 n1 ns) (hs : n1 ≤ 1000000) :
   Calls Tryz.prog 104 #[.agg #[.slice A1 n1 c1, .slice A2 n2 c2, .int .i64 mn], .int .i64 f] w fun e w' => e = .returned (.tuple #[.int .i64 (Sp.kindAt ns f 3), .int .i64 (Sp.kindAt ns f 4)]) ∧ Below w.heap.size w w' := by
 have HN := Lib.hid hn
 clear hn
 go_enter Tryz.func104, Tryz.ntmps104
 go_upto_region 1 with fail
 refine wp_named (fun W => ∃ b0, w.heap.size = b0 ∧ Blk W b0 [.slice A1 n1 c1, .slice A2 n2 c2, .int .i64 mn] ∧ Below w.heap.size w W) ⟨_, rfl, ?_, ?_⟩ ?_
 · exact kbn
 · go_grown
 rintro W ⟨b0, e0, B0, hB⟩
 rw [e0]
 have G0 : w.heap.size ≤ b0 := by omega
 clear e0
 have ⟨L0, C0, F0⟩ := B0
 have HW := Lib.hid (HN.out.later hB)
 go_wp2_with fail
 go_region_held3 (fun w' => SX0 W w') (exact kp0)
   (first | (go_at_call 143; ((with_reducible refine (kind_any _ _ _ _ _ _ _ _ _ ns _ (HW.out.kept (by first | exact (by assumption : SX0 W _).1)) hs).mono ?_)); rintro e w3 ⟨rfl, hb3⟩; obtain ⟨hc3, hf3, hg3⟩ := bcell hb3; have hz3 := hb3.size; try simp at hz3))
 all_goals
   go_wp2_with fail
   go_ret2
   refine ⟨rfl, Kept.below (X := []) hB hB.size (by simp) ?_⟩
   (exact kpt0)
end Go.Proofs.YtooejoajojanjaaGreatDoor
namespace Go.Df.Sp
theorem nodes_node {ns : List Nd} {m e : Int} {j : Nat} (h : ∀ x, x < j → nodeErr ns x = 0) (hj : j < ns.length) (he : nodeErr ns j = e) (h0 : e ≠ 0) : nodesErr ns m = e := by
 have h1 := fe_hit h hj he h0
 unfold nodesErr
 rw [h1, if_pos h0]
theorem nodes_whole {ns : List Nd} {m e : Int} {j : Nat} (hn : ∀ x, x < ns.length → nodeErr ns x = 0) (h : ∀ x, x < j → wholeErr ns x = 0) (hj : j < ns.length) (he : wholeErr ns j = e) (h0 : e ≠ 0) : nodesErr ns m = e := by
 have h1 := fe_hit h hj he h0
 have h2 : fe (nodeErr ns) 0 ns.length = 0 := fe_ok _ 0 (fun i _ hi => hn i (by omega))
 unfold nodesErr
 rw [h2, if_neg (by simp), h1, if_pos h0]
theorem nodes_main {ns : List Nd} {m : Int} (hn : ∀ x, x < ns.length → nodeErr ns x = 0) (h : ∀ x, x < ns.length → wholeErr ns x = 0) : nodesErr ns m = mainErr ns m := by
 have h1 : fe (wholeErr ns) 0 ns.length = 0 := fe_ok _ 0 (fun i _ hi => h i (by omega))
 have h2 : fe (nodeErr ns) 0 ns.length = 0 := fe_ok _ 0 (fun i _ hi => hn i (by omega))
 unfold nodesErr
 rw [h2, if_neg (by simp), h1, if_neg (by simp)]
end Go.Df.Sp
namespace Go.Proofs.YtooejoajojanjaaGreatDoor
open Go.RowKit Go.Df
attribute [local go_sem ↓] Go.wp_at_zero Go.wp_at_succ
set_option maxRecDepth 100000 in
set_option maxHeartbeats 2000000 in
theorem nodes_any (A1 A2 : Option Addr) (n1 c1 n2 c2 : Nat) (mn : Int) (ns : List Sp.Nd) (w : World) (hn : Nds w A1 n1 ns) (hs : n1 ≤ 1000000) :
   Calls Tryz.prog 105 #[.agg #[.slice A1 n1 c1, .slice A2 n2 c2, .int .i64 mn]] w fun e w' => e = .returned (.int .i64 (Sp.nodesErr ns mn)) ∧ Below w.heap.size w w' := by
 have HN := Lib.hid hn
 have HL := Lib.hid hn.1
 clear hn
 go_enter Tryz.func105, Tryz.ntmps105
 go_upto_region 1 with fail
 refine wp_named (fun W => ∃ b0, w.heap.size = b0 ∧ Blk W b0 [.slice A1 n1 c1, .slice A2 n2 c2, .int .i64 mn] ∧ Below w.heap.size w W) ⟨_, rfl, ?_, ?_⟩ ?_
 · exact kbn
 · go_grown
 rintro W ⟨b0, e0, B0, hB⟩
 rw [e0]
 have G0 : w.heap.size ≤ b0 := by omega
 clear e0
 have ⟨L0, C0, F0⟩ := B0
 have HW := Lib.hid (HN.out.later hB)
 go_wp2_with fail
 go_loopw [3] (fun i wr => ∃ j : Nat, j ≤ n1 ∧ i = .int .i64 j ∧ Kept [] W wr ∧ Hid (∀ x, x < j → Sp.nodeErr ns x = 0)) (fun i _ => n1 - (intOf i).toNat)
 case atStart => exact ⟨0, Nat.zero_le _, rfl, Kept.refl _ _, Lib.hid (fun j hj => absurd hj (by omega))⟩
 case round =>
   obtain ⟨j, hj, rfl, hkr, hno⟩ := hrel
   have BR := hkr.blk (by simp) B0
   have ⟨LR, CR, FR⟩ := BR
   clear C0 F0
   by_cases hlt : j < n1
   · obtain ⟨b, o, rfl, hl, hc⟩ := (HW.out.kept hkr).2 (by omega)
     obtain ⟨h1, h2, h3⟩ := hc j hlt
     have HC := Lib.hid hc
     have LB := Lib.hid hl
     clear hc
     obtain ⟨nf, nk, ni, en⟩ : ∃ nf nk ni, gn ns j = ⟨nf, nk, ni⟩ := ⟨_, _, _, rfl⟩
     rw [en] at h1 h2 h3
     have HE := Lib.hid en
     clear en
     go_upto_region 5 with fail
     refine wp_named (fun V => ∃ g, wr.heap.size = g ∧ Blk V g [.int .i64 nf, .int .i64 nk, .int .i64 ni] ∧ Kept [] wr V) ⟨_, rfl, Blk.new _ _ _ _ rfl, (Kept.refl _ _).alloc _⟩ ?_
     rintro V ⟨g, eg, Bg, hkV⟩
     rw [eg]
     have hkw : Kept [] W V := keptTrans hkr hkV
     have BV := hkw.blk (by simp) B0
     have ⟨LV, CV, FV⟩ := BV
     have ⟨LG, CG, FG⟩ := Bg
     have hBV := hkw.below hB hB.size (by simp)
     clear CR FR h1 h2 h3 eg
     by_cases hk2 : nk = 2
     all_goals
       first
         | (have k1 : (nk == 2) = true := by simpa using hk2)
         | (have k1 : (nk == 2) = false := by simpa using hk2)
       first
         | (have k2 : (nk != 2) = false := by simpa using hk2)
         | (have k2 : (nk != 2) = true := by simpa using hk2)
       by_cases hi1 : ni = -1
       all_goals
         first
           | (have k3 : (ni != -1) = false := by simpa using hi1)
           | (have k3 : (ni != -1) = true := by simpa using hi1)
         have HK := Lib.hid hk2
         have HI := Lib.hid hi1
         clear hk2 hi1
         go_upto_region 9 with fail
         all_goals first
           | (go_ret; exact ⟨ret_int (Sp.nodes_node (e := 12) hno.out (by rw [HL.out]; exact hlt) (by unfold Sp.nodeErr; rw [HE.out]; dsimp only; rw [if_pos (by have := HK.out; have := HI.out; omega)]) (by omega)).symm, hBV⟩)
           | (go_ret; exact ⟨ret_int (Sp.nodes_node (e := 4) hno.out (by rw [HL.out]; exact hlt) (by unfold Sp.nodeErr; rw [HE.out]; dsimp only; rw [if_neg (by have := HK.out; have := HI.out; omega), if_pos (by have := HK.out; have := HI.out; omega)]) (by omega)).symm, hBV⟩)
           | skip
         all_goals
           have hz : Hid (Sp.nodeErr ns j = if 0 < j ∧ Sp.lessN (gn ns (j - 1)) ⟨nf, nk, ni⟩ = false then 13 else 0) := by
             show Sp.nodeErr ns j = _
             unfold Sp.nodeErr
             rw [HE.out]
             dsimp only
             rw [if_neg (by have := HK.out; have := HI.out; omega), if_neg (by have := HK.out; have := HI.out; omega)]
           have hno1 : Hid (Sp.nodeErr ns j = 0 → ∀ x, x < j + 1 → Sp.nodeErr ns x = 0) := fun h0 x hx => by
             rcases Nat.lt_or_ge x j with h9 | h9
             · exact hno.out x h9
             · obtain rfl : x = j := by omega
               exact h0
           by_cases hj0 : j = 0
           · have y1 : decide (0 < j) = false := by simp; omega
             have y2 : decide ((0 : Int) < (j : Int)) = false := by simp; omega
             have hfin : Hid (∀ x, x < j + 1 → Sp.nodeErr ns x = 0) := hno1.out (by rw [hz.out, if_neg (by omega)])
             clear hj0
             go_quiet (fail)
             go_wp2_with fail
             exact ⟨⟨j + 1, by omega, by go_num, hkw.drewN _, hfin⟩, by simp [intOf]; omega⟩
           · have y1 : decide (0 < j) = true := by simp; omega
             have y2 : decide ((0 : Int) < (j : Int)) = true := by simp; omega
             have y3 : IntKind.i64.wrap ((j : Int) - 1) = (j : Int) - 1 := IntWalk.i64_in _ (by omega)
             have y4 : (0 : Int) ≤ (j : Int) - 1 := by omega
             have y5 : ((j : Int) - 1).toNat = j - 1 := by omega
             have y6 : (j : Int) - 1 < (n1 : Int) := by omega
             have y7 : 0 < j := by omega
             have y8 : 1 ≤ j := by omega
             have y9 : (1 : Int) ≤ (j : Int) := by omega
             have y10 : j ≤ n1 := by omega
             have y11 : j < n1 + 1 := by omega
             have y12 : (j : Int) < (n1 : Int) + 1 := by omega
             have y13 : (j : Int) ≤ (n1 : Int) := by omega
             obtain ⟨p1, p2, p3⟩ := HC.out (j - 1) (by omega)
             obtain ⟨pf, pk, pi, ep⟩ : ∃ pf pk pi, gn ns (j - 1) = ⟨pf, pk, pi⟩ := ⟨_, _, _, rfl⟩
             rw [ep] at p1 p2 p3
             have q1 : V.cell? ⟨b, o + (j - 1) * 3, none⟩ = some (.int .i64 pf) := (hkV.cell b _ LB.out (by simp)).trans p1
             have q2 : V.cell? ⟨b, o + (j - 1) * 3 + 1, none⟩ = some (.int .i64 pk) := (hkV.cell b _ LB.out (by simp)).trans p2
             have q3 : V.cell? ⟨b, o + (j - 1) * 3 + 2, none⟩ = some (.int .i64 pi) := (hkV.cell b _ LB.out (by simp)).trans p3
             have hbV : b < V.heap.size := Nat.lt_of_lt_of_le LB.out hkV.size
             have HPe := Lib.hid ep
             clear p1 p2 p3 ep hj0
             go_cut [54] (fun s wx => s = .bool (!Sp.lessN ⟨pf, pk, pi⟩ ⟨nf, nk, ni⟩) ∧ Kept [] V wx)
             case first =>
               go_region_held3 (fun w' => SX0 V w') (exact kp0)
                 (first | (go_at_call 144; ((with_reducible refine (less_any pf pk pi nf nk ni _).mono ?_)); rintro e w3 ⟨rfl, hb3⟩; obtain ⟨hc3, hf3, hg3⟩ := bcell hb3; have hz3 := hb3.size; try simp at hz3))
               all_goals
                 go_wp2_with fail
                 go_meet
                 refine ⟨rfl, ?_⟩
                 (exact kpt0)
             case rest =>
               obtain ⟨rfl, hkc⟩ := hcut
               have hkwc : Kept [] W wc := keptTrans hkw hkc
               have hBc := hkwc.below hB hB.size (by simp)
               by_cases hles : Sp.lessN ⟨pf, pk, pi⟩ ⟨nf, nk, ni⟩ = true
               · rw [hles]
                 have hfin : Hid (∀ x, x < j + 1 → Sp.nodeErr ns x = 0) := hno1.out (by rw [hz.out, HPe.out, hles, if_neg (by simp)])
                 clear hles
                 go_wp2_with fail
                 exact ⟨⟨j + 1, by omega, by go_num, hkwc, hfin⟩, by simp [intOf]; omega⟩
               · rw [Bool.not_eq_true] at hles
                 rw [hles]
                 have hfin : Hid (Sp.nodeErr ns j = 13) := by
                   show Sp.nodeErr ns j = 13
                   rw [hz.out, HPe.out, hles, if_pos ⟨by omega, rfl⟩]
                 clear hles
                 go_wp2_with fail
                 go_ret
                 exact ⟨ret_int (Sp.nodes_node hno.out (by rw [HL.out]; exact hlt) hfin.out (by omega)).symm, hBc⟩
   · obtain rfl : j = n1 := by omega
     have k1 : decide (j < j) = false := by simp
     have hall : Hid (∀ x, x < ns.length → Sp.nodeErr ns x = 0) := fun x hx => hno.out x (by rw [HL.out] at hx; exact hx)
     clear hno
     go_wp2_with fail
     go_loopw [5] (fun i wz => ∃ q : Nat, q ≤ j ∧ i = .int .i64 q ∧ Kept [] W wz ∧ Hid (∀ x, x < q → Sp.wholeErr ns x = 0)) (fun i _ => j - (intOf i).toNat)
     case atStart => exact ⟨0, Nat.zero_le _, rfl, hkr, Lib.hid (fun j hj => absurd hj (by omega))⟩
     case round =>
       obtain ⟨q, hq, rfl, hkz, hno⟩ := hrel
       have BZ := hkz.blk (by simp) B0
       have ⟨LZ, CZ, FZ⟩ := BZ
       clear CR FR
       have hBz := hkz.below hB hB.size (by simp)
       by_cases hlt2 : q < j
       · obtain ⟨b, o, rfl, hl, hc⟩ := (HW.out.kept hkz).2 (by omega)
         obtain ⟨h1, h2, h3⟩ := hc q hlt2
         clear hc h2 h3
         have q1 : decide (q < j) = true := by simp; omega
         have q2 : decide ((q : Int) < (j : Int)) = true := by simp; omega
         go_wp2_with fail
         refine (exit_any _ _ _ _ _ _ _ _ ns _ (HW.out.kept hkz) hs).mono ?_
         rintro e w3 ⟨rfl, hb3⟩
         have hk3 : Kept [] W w3 := hkz.call hb3
         have B3 := hk3.blk (by simp) B0
         have ⟨L3, C3, F3⟩ := B3
         clear CZ FZ h1
         go_wp2_with fail
         refine (start_any _ _ _ _ _ _ _ _ ns _ (HW.out.kept hk3) hs).mono ?_
         rintro e w4 ⟨rfl, hb4⟩
         have hk4 : Kept [] W w4 := hk3.call hb4
         have hB4 := hk4.below hB hB.size (by simp)
         have hwe : Hid (Sp.wholeErr ns q = if Sp.kindAt ns (gn ns q).f 1 < 0 ∨ Sp.kindAt ns (gn ns q).f 3 < 0 ∨ Sp.kindAt ns (gn ns q).f 4 < 0 then 1 else 0) := Lib.hid rfl
         generalize Sp.kindAt ns (gn ns q).f 1 = s1 at *
         generalize Sp.kindAt ns (gn ns q).f 3 = s3 at *
         generalize Sp.kindAt ns (gn ns q).f 4 = s4 at *
         clear C3 F3
         have hfin : Hid (¬ (s1 < 0 ∨ s3 < 0 ∨ s4 < 0) → ∀ x, x < q + 1 → Sp.wholeErr ns x = 0) := fun h0 x hx => by
           rcases Nat.lt_or_ge x q with h9 | h9
           · exact hno.out x h9
           · obtain rfl : x = q := by omega
             rw [hwe.out, if_neg h0]
         go_wp2_with fail
         all_goals first
           | (go_ret; exact ⟨ret_int (Sp.nodes_whole hall.out hno.out (by rw [HL.out]; exact hlt2) (e := 1) (by rw [hwe.out, if_pos (by omega)]) (by omega)).symm, hB4⟩)
           | exact ⟨⟨q + 1, by omega, by go_num, hk4, Lib.hid (hfin.out (by omega))⟩, by simp [intOf]; omega⟩
       · obtain rfl : q = j := by omega
         have q1 : decide (q < q) = false := by simp
         have hw : Hid (∀ x, x < ns.length → Sp.wholeErr ns x = 0) := fun x hx => hno.out x (by rw [HL.out] at hx; exact hx)
         have hm : Hid (Sp.nodesErr ns mn = if mn < 0 ∨ (q : Int) ≤ mn ∨ (gn ns mn.toNat).k ≠ 1 then 14 else 0) := by
           show Sp.nodesErr ns mn = _
           rw [Sp.nodes_main hall.out hw.out, Sp.mainErr, HL.out]
         clear hno
         by_cases m0 : mn < 0
         · have z1 : decide (mn < 0) = true := by simpa using m0
           go_wp2_with fail
           go_ret
           exact ⟨ret_int (by rw [hm.out, if_pos (by omega)]), hBz⟩
         · have z1 : decide (mn < 0) = false := by simpa using m0
           by_cases m1 : (q : Int) ≤ mn
           · have z2 : decide ((q : Int) ≤ mn) = true := by simpa using m1
             go_wp2_with fail
             go_ret
             exact ⟨ret_int (by rw [hm.out, if_pos (by omega)]), hBz⟩
           · have z2 : decide ((q : Int) ≤ mn) = false := by simpa using m1
             obtain ⟨mm, rfl⟩ := Int.eq_ofNat_of_zero_le (show 0 ≤ mn by omega)
             obtain ⟨b, o, rfl, hl, hc⟩ := (HW.out.kept hkz).2 (by omega)
             obtain ⟨h1, h2, h3⟩ := hc mm (by omega)
             clear hc h1 h3
             have hmm : mm < q := by omega
             rw [Int.toNat_natCast] at hm
             by_cases m2 : (gn ns mm).k = 1
             · have z3 : ((gn ns mm).k != 1) = false := by simp [m2]
               have M2 := Lib.hid m2
               clear m2
               go_wp2_with fail
               go_ret
               exact ⟨ret_int (by rw [hm.out, if_neg (by have := M2.out; omega)]), hBz⟩
             · have z3 : ((gn ns mm).k != 1) = true := by simp [m2]
               go_wp2_with fail
               go_ret
               exact ⟨ret_int (by rw [hm.out, if_pos (.inr (.inr m2))]), hBz⟩
end Go.Proofs.YtooejoajojanjaaGreatDoor
namespace Go.Df.Sp
def callB (ns : List Nd) (c f : Int) (e : Ed) : Bool := decide (e.k = 2) && decide (e.a = c) && decide (0 ≤ e.b) && decide (e.b < ns.length) && decide ((gn ns e.b.toNat).f = f) && decide ((gn ns e.b.toNat).k = 1)
def callsB (ns : List Nd) (es : List Ed) (c f : Int) : Bool := es.any (callB ns c f)
theorem calls_hit {ns : List Nd} {es : List Ed} {c f : Int} {j : Nat} (hj : j < es.length) (h : callB ns c f (ge es j) = true) : callsB ns es c f = true := by
 unfold callsB
 rw [List.any_eq_true]
 exact ⟨ge es j, by rw [ge_lt hj]; exact List.getElem_mem hj, h⟩
theorem calls_miss {ns : List Nd} {es : List Ed} {c f : Int} (h : ∀ j, j < es.length → callB ns c f (ge es j) = false) : callsB ns es c f = false := by
 unfold callsB
 rw [List.any_eq_false]
 intro x hx
 obtain ⟨j, hj, rfl⟩ := List.getElem_of_mem hx
 have := h j hj
 rw [ge_lt hj] at this
 simp [this]
end Go.Df.Sp
namespace Go.Proofs.YtooejoajojanjaaGreatDoor
open Go.RowKit Go.Df
attribute [local go_sem ↓] Go.wp_at_zero Go.wp_at_succ
set_option maxRecDepth 100000 in
set_option maxHeartbeats 2000000 in
theorem calls_any (A1 A2 : Option Addr) (n1 c1 n2 c2 : Nat) (mn cl f : Int) (ns : List Sp.Nd) (es : List Sp.Ed) (w : World) (hn : Nds w A1 n1 ns) (he : Eds w A2 n2 es) (hs : n1 ≤ 1000000) (hs2 : n2 ≤ 1000000) :
   Calls Tryz.prog 146 #[.agg #[.slice A1 n1 c1, .slice A2 n2 c2, .int .i64 mn], .int .i64 cl, .int .i64 f] w fun e w' => e = .returned (.bool (Sp.callsB ns es cl f)) ∧ Below w.heap.size w w' := by
 have HN := Lib.hid hn
 have HL := Lib.hid hn.1
 have HE := Lib.hid he
 have HLe := Lib.hid he.1
 clear hn he
 go_enter Tryz.func146, Tryz.ntmps146
 go_upto_region 1 with fail
 refine wp_named (fun W => ∃ b0, w.heap.size = b0 ∧ Blk W b0 [.slice A1 n1 c1, .slice A2 n2 c2, .int .i64 mn] ∧ Below w.heap.size w W) ⟨_, rfl, ?_, ?_⟩ ?_
 · exact kbn
 · go_grown
 rintro W ⟨b0, e0, B0, hB⟩
 rw [e0]
 have G0 : w.heap.size ≤ b0 := by omega
 clear e0
 have ⟨L0, C0, F0⟩ := B0
 have HW := Lib.hid (HN.out.later hB)
 have HWe := Lib.hid (HE.out.later hB)
 go_wp2_with fail
 go_loopw [7] (fun i wr => ∃ j : Nat, j ≤ n2 ∧ i = .int .i64 j ∧ Kept [] W wr ∧ Hid (∀ x, x < j → Sp.callB ns cl f (ge es x) = false)) (fun i _ => n2 - (intOf i).toNat)
 case atStart => exact ⟨0, Nat.zero_le _, rfl, Kept.refl _ _, Lib.hid (fun j hj => absurd hj (by omega))⟩
 case round =>
   obtain ⟨j, hj, rfl, hkr, hno⟩ := hrel
   have BR := hkr.blk (by simp) B0
   have ⟨LR, CR, FR⟩ := BR
   clear C0 F0
   by_cases hlt : j < n2
   · obtain ⟨b, o, rfl, hl, hc⟩ := (HWe.out.kept hkr).2 (by omega)
     obtain ⟨h1, h2, h3, h4⟩ := hc j hlt
     clear hc
     obtain ⟨ea, eb, ek, ec, en⟩ : ∃ ea eb ek ec, ge es j = ⟨ea, eb, ek, ec⟩ := ⟨_, _, _, _, rfl⟩
     rw [en] at h1 h2 h3 h4
     have HEe := Lib.hid en
     clear en
     go_upto_region 5 with fail
     refine wp_named (fun V => ∃ g, wr.heap.size = g ∧ Blk V g [.int .i64 ea, .int .i64 eb, .int .i64 ek, .int .i64 ec] ∧ Kept [] wr V) ⟨_, rfl, Blk.new _ _ _ _ rfl, (Kept.refl _ _).alloc _⟩ ?_
     rintro V ⟨g, eg, Bg, hkV⟩
     rw [eg]
     have hkw : Kept [] W V := keptTrans hkr hkV
     have BV := hkw.blk (by simp) B0
     have ⟨LV, CV, FV⟩ := BV
     have ⟨LG, CG, FG⟩ := Bg
     have hBV := hkw.below hB hB.size (by simp)
     clear CR FR h1 h2 h3 h4 eg
     have hstep : Hid (Sp.callB ns cl f ⟨ea, eb, ek, ec⟩ = false → ∀ x, x < j + 1 → Sp.callB ns cl f (ge es x) = false) := fun h0 x hx => by
       rcases Nat.lt_or_ge x j with h9 | h9
       · exact hno.out x h9
       · obtain rfl : x = j := by omega
         rw [HEe.out]; exact h0
     have hyes : Hid (Sp.callB ns cl f ⟨ea, eb, ek, ec⟩ = true → Sp.callsB ns es cl f = true) := fun h0 => Sp.calls_hit (by rw [HLe.out]; exact hlt) (by rw [HEe.out]; exact h0)
     by_cases e1 : ek = 2
     · have e1' : (ek == 2) = true := by simpa using e1
       by_cases e2 : ea = cl
       · have e2' : (ea == cl) = true := by simpa using e2
         by_cases e3 : 0 ≤ eb
         · have e3' : decide (0 ≤ eb) = true := by simpa using e3
           by_cases e4 : eb < (n1 : Int)
           · have e4' : decide (eb < (n1 : Int)) = true := by simpa using e4
             obtain ⟨x, rfl⟩ := Int.eq_ofNat_of_zero_le e3
             have hx : x < n1 := by omega
             obtain ⟨b', o', rfl, hl', hc'⟩ := (HW.out.kept hkw).2 (by omega)
             obtain ⟨g1, g2, g3⟩ := hc' x hx
             clear hc' g3
             by_cases e5 : (gn ns x).f = f
             · have e5' : ((gn ns x).f == f) = true := by simpa using e5
               by_cases e6 : (gn ns x).k = 1
               · have e6' : ((gn ns x).k == 1) = true := by simpa using e6
                 have hfin := Lib.hid (hyes.out (by simp [Sp.callB, e1, e2, e5, e6, HL.out, hx]))
                 clear e1 e2 e5 e6
                 go_wp2_with fail
                 go_ret
                 exact ⟨ret_bool hfin.out.symm, hBV⟩
               · have e6' : ((gn ns x).k == 1) = false := by simpa using e6
                 have hfin := Lib.hid (hstep.out (by simp [Sp.callB, e6]))
                 clear e1 e2 e5 e6
                 go_wp2_with fail
                 exact ⟨⟨j + 1, by omega, by go_num, hkw, hfin⟩, by simp [intOf]; omega⟩
             · have e5' : ((gn ns x).f == f) = false := by simpa using e5
               have hfin := Lib.hid (hstep.out (by simp [Sp.callB, e5]))
               clear e1 e2 e5
               go_wp2_with fail
               exact ⟨⟨j + 1, by omega, by go_num, hkw, hfin⟩, by simp [intOf]; omega⟩
           · have e4' : decide (eb < (n1 : Int)) = false := by simpa using e4
             have hfin := Lib.hid (hstep.out (by simp [Sp.callB, HL.out, e4]))
             clear e1 e2
             go_wp2_with fail
             exact ⟨⟨j + 1, by omega, by go_num, hkw, hfin⟩, by simp [intOf]; omega⟩
         · have e3' : decide (0 ≤ eb) = false := by simpa using e3
           have hfin := Lib.hid (hstep.out (by simp [Sp.callB, e3]))
           clear e1 e2
           go_wp2_with fail
           exact ⟨⟨j + 1, by omega, by go_num, hkw, hfin⟩, by simp [intOf]; omega⟩
       · have e2' : (ea == cl) = false := by simpa using e2
         have hfin := Lib.hid (hstep.out (by simp [Sp.callB, e2]))
         clear e1 e2
         go_wp2_with fail
         exact ⟨⟨j + 1, by omega, by go_num, hkw, hfin⟩, by simp [intOf]; omega⟩
     · have e1' : (ek == 2) = false := by simpa using e1
       have hfin := Lib.hid (hstep.out (by simp [Sp.callB, e1]))
       clear e1
       go_wp2_with fail
       exact ⟨⟨j + 1, by omega, by go_num, hkw, hfin⟩, by simp [intOf]; omega⟩
   · go_wp2_with fail
     go_ret
     exact ⟨ret_bool (Sp.calls_miss (fun x hx => hno.out x (by rw [HLe.out] at hx; omega))).symm, hkr.below hB hB.size (by simp)⟩
end Go.Proofs.YtooejoajojanjaaGreatDoor
namespace Go.Df.Sp
def fitsN (ek ec ea : Int) (fr td cl : Nd) (cb : Bool) : Bool :=
 if ek = 1 ∨ ek = 5 then decide (fr.f = td.f) && decide (fr.k ≠ 3) && decide (fr.k ≠ 4) && decide (td.k ≠ 1) && (decide (ek = 1) || decide (fr.k = 2))
 else if ek = 2 then decide (fr.k = 2) && decide (ec = ea) && decide (td.k = 1)
 else if (ek = 3 ∧ fr.k ≠ 3) ∨ (ek = 4 ∧ fr.k ≠ 4) then false
 else decide (cl.k = 2) && cb && decide (td.f = cl.f) && decide (td.k ≠ 1)
def fitsB (ns : List Nd) (es : List Ed) (e : Ed) : Bool :=
 fitsN e.k e.c e.a (gn ns e.a.toNat) (gn ns e.b.toNat) (gn ns e.c.toNat) (callsB ns es e.c (gn ns e.a.toNat).f)
end Go.Df.Sp
namespace Go.Proofs.YtooejoajojanjaaGreatDoor
open Go.RowKit Go.Df
attribute [local go_sem ↓] Go.wp_at_zero Go.wp_at_succ
set_option maxRecDepth 100000 in
set_option maxHeartbeats 4000000 in
theorem fits_any (A1 A2 : Option Addr) (n1 c1 n2 c2 : Nat) (mn : Int) (ea eb : Nat) (ek ec : Int) (ns : List Sp.Nd) (es : List Sp.Ed) (w : World) (hn : Nds w A1 n1 ns) (he : Eds w A2 n2 es) (hs : n1 ≤ 1000000) (hs2 : n2 ≤ 1000000)
   (ha : ea < n1) (hb : eb < n1) (hc : ek ≠ 1 → ek ≠ 5 → ek ≠ 2 → 0 ≤ ec ∧ ec < n1) :
   Calls Tryz.prog 107 #[.agg #[.slice A1 n1 c1, .slice A2 n2 c2, .int .i64 mn], .agg #[.int .i64 ea, .int .i64 eb, .int .i64 ek, .int .i64 ec]] w fun e w' => e = .returned (.bool (Sp.fitsB ns es ⟨ea, eb, ek, ec⟩)) ∧ Below w.heap.size w w' := by
 have HN := Lib.hid hn
 have HE := Lib.hid he
 have HC := Lib.hid hc
 obtain ⟨b, o, rfl, hl, hcl⟩ := hn.2 (by omega)
 obtain ⟨p1, p2, p3⟩ := hcl ea ha
 obtain ⟨q1, q2, q3⟩ := hcl eb hb
 have HCl := Lib.hid hcl
 clear hn he hc hcl
 go_enter Tryz.func107, Tryz.ntmps107
 go_upto_region 1 with fail
 refine wp_named (fun W => ∃ b0 b1, w.heap.size = b0 ∧ w.heap.size + 1 = b1 ∧ Blk W b0 [.slice (some ⟨b, o, none⟩) n1 c1, .slice A2 n2 c2, .int .i64 mn] ∧ Blk W b1 [.int .i64 ea, .int .i64 eb, .int .i64 ek, .int .i64 ec] ∧ Below w.heap.size w W) ⟨_, _, rfl, rfl, ?_, ?_, ?_⟩ ?_
 · exact (Blk.new _ _ _ _ (by first | rfl | simp)).alloc _
 · exact kbn
 · go_grown
 rintro W ⟨b0, b1, e0, e1, B0, B1, hB⟩
 rw [e1, e0]
 have G0 : w.heap.size ≤ b0 := by omega
 have n01 : b0 ≠ b1 := by omega
 have G1 : w.heap.size ≤ b1 := by omega
 have n10 : b1 ≠ b0 := by omega
 clear e0 e1
 have ⟨L0, C0, F0⟩ := B0
 have ⟨L1, C1, F1⟩ := B1
 have hlW : b < W.heap.size := Nat.lt_of_lt_of_le hl hB.size
 obtain ⟨f1, k1, i1, e1⟩ : ∃ f k i, gn ns ea = ⟨f, k, i⟩ := ⟨_, _, _, rfl⟩
 obtain ⟨f2, k2, i2, e2⟩ : ∃ f k i, gn ns eb = ⟨f, k, i⟩ := ⟨_, _, _, rfl⟩
 rw [e1] at p1 p2 p3
 rw [e2] at q1 q2 q3
 have r1 : W.cell? ⟨b, o + ea * 3, none⟩ = some (.int .i64 f1) := (hB.cell (p := ⟨b, _, none⟩) hl).trans p1
 have r2 : W.cell? ⟨b, o + ea * 3 + 1, none⟩ = some (.int .i64 k1) := (hB.cell (p := ⟨b, _, none⟩) hl).trans p2
 have r3 : W.cell? ⟨b, o + ea * 3 + 2, none⟩ = some (.int .i64 i1) := (hB.cell (p := ⟨b, _, none⟩) hl).trans p3
 have r4 : W.cell? ⟨b, o + eb * 3, none⟩ = some (.int .i64 f2) := (hB.cell (p := ⟨b, _, none⟩) hl).trans q1
 have r5 : W.cell? ⟨b, o + eb * 3 + 1, none⟩ = some (.int .i64 k2) := (hB.cell (p := ⟨b, _, none⟩) hl).trans q2
 have r6 : W.cell? ⟨b, o + eb * 3 + 2, none⟩ = some (.int .i64 i2) := (hB.cell (p := ⟨b, _, none⟩) hl).trans q3
 have E1 := Lib.hid e1
 have E2 := Lib.hid e2
 have x1 : (0 : Int) ≤ (ea : Int) := by omega
 have x2 : (ea : Int) < (n1 : Int) := by omega
 have x3 : (0 : Int) ≤ (eb : Int) := by omega
 have x4 : (eb : Int) < (n1 : Int) := by omega
 clear p1 p2 p3 q1 q2 q3 e1 e2
 go_upto_region 1 with fail
 go_cut [5, 6] (fun s t wx => ∃ g5 g6 : Nat, s = .pointer (some ⟨g5, 0, none⟩) ∧ t = .pointer (some ⟨g6, 0, none⟩) ∧ Blk wx g5 [.int .i64 f1, .int .i64 k1, .int .i64 i1] ∧ Blk wx g6 [.int .i64 f2, .int .i64 k2, .int .i64 i2] ∧ Kept [] W wx)
 case first =>
   go_region_held3 (fun w' => SX0 W w') (exact kp0) (fail)
   all_goals
     go_wp2_with fail
     go_meet
     refine ⟨_, _, rfl, rfl, ?_, ?_, ?_⟩
     · (exact kpb)
     · (exact kpb)
     · (exact kpt0)
 case rest =>
   obtain ⟨g5, g6, rfl, rfl, B5, B6, hkc⟩ := hcut
   have BC0 := hkc.blk (by simp) B0
   have BC1 := hkc.blk (by simp) B1
   have ⟨L0', C0', F0'⟩ := BC0
   have ⟨L1', C1', F1'⟩ := BC1
   have ⟨L5, C5, F5⟩ := B5
   have ⟨L6, C6, F6⟩ := B6
   have hBc := hkc.below hB hB.size (by simp)
   have HF : Hid (Sp.fitsB ns es ⟨ea, eb, ek, ec⟩ = Sp.fitsN ek ec ea ⟨f1, k1, i1⟩ ⟨f2, k2, i2⟩ (gn ns ec.toNat) (Sp.callsB ns es ec f1)) := by
     show Sp.fitsB ns es ⟨ea, eb, ek, ec⟩ = _
     unfold Sp.fitsB
     simp only [Int.toNat_natCast]
     rw [E1.out, E2.out]
   clear C0 F0 C1 F1 r1 r2 r3 r4 r5 r6
   by_cases h1 : ek = 1
   · have t1 : (ek == 1) = true := by simpa using h1
     have HH := Lib.hid h1
     clear h1
     go_wp2_with fail
     all_goals
       go_ret
       refine ⟨ret_bool ?_, hBc⟩
       rw [HF.out, HH.out]
       clear C0' C1' C5 C6 F0' F1' F5 F6
       first | (simp_all [Sp.fitsN]; done) | (simp_all [Sp.fitsN]; rw [Bool.eq_iff_iff]; simp_all; try omega)
   · have t1 : (ek == 1) = false := by simpa using h1
     by_cases h5 : ek = 5
     · have t5 : (ek == 5) = true := by simpa using h5
       have HH := Lib.hid h5
       clear h5 h1
       go_wp2_with fail
       all_goals
         go_ret
         refine ⟨ret_bool ?_, hBc⟩
         rw [HF.out, HH.out]
         clear C0' C1' C5 C6 F0' F1' F5 F6
         first | (simp_all [Sp.fitsN]; done) | (simp_all [Sp.fitsN]; rw [Bool.eq_iff_iff]; simp_all; try omega)
     · have t5 : (ek == 5) = false := by simpa using h5
       by_cases h2 : ek = 2
       · have t2 : (ek == 2) = true := by simpa using h2
         have HH := Lib.hid h2
         clear h2 h1 h5
         go_wp2_with fail
         all_goals
           go_ret
           refine ⟨ret_bool ?_, hBc⟩
           rw [HF.out, HH.out]
           clear C0' C1' C5 C6 F0' F1' F5 F6
           first | (simp_all [Sp.fitsN]; done) | (simp_all [Sp.fitsN]; rw [Bool.eq_iff_iff]; simp_all; try omega)
       · have t2 : (ek == 2) = false := by simpa using h2
         obtain ⟨c0, cn⟩ := HC.out h1 h5 h2
         obtain ⟨x, rfl⟩ := Int.eq_ofNat_of_zero_le c0
         have hx : x < n1 := by omega
         obtain ⟨s1, s2, s3⟩ := HCl.out x hx
         obtain ⟨f3, k3, i3, e3⟩ : ∃ f k i, gn ns x = ⟨f, k, i⟩ := ⟨_, _, _, rfl⟩
         rw [e3] at s1 s2 s3
         have u1 : wc.cell? ⟨b, o + x * 3, none⟩ = some (.int .i64 f3) := (hBc.cell (p := ⟨b, _, none⟩) hl).trans s1
         have u2 : wc.cell? ⟨b, o + x * 3 + 1, none⟩ = some (.int .i64 k3) := (hBc.cell (p := ⟨b, _, none⟩) hl).trans s2
         have u3 : wc.cell? ⟨b, o + x * 3 + 2, none⟩ = some (.int .i64 i3) := (hBc.cell (p := ⟨b, _, none⟩) hl).trans s3
         have E3 := Lib.hid e3
         clear s1 s2 s3 e3
         go_upto_region 9 with fail
         refine wp_named (fun V => ∃ g, wc.heap.size = g ∧ Blk V g [.int .i64 f3, .int .i64 k3, .int .i64 i3] ∧ Kept [] wc V) ⟨_, rfl, Blk.new _ _ _ _ rfl, (Kept.refl _ _).alloc _⟩ ?_
         rintro V ⟨g, eg, Bg, hkV⟩
         rw [eg]
         have hkw : Kept [] W V := keptTrans hkc hkV
         have hBV := hkw.below hB hB.size (by simp)
         have ⟨M0, D0, G0'⟩ := hkV.blk (by simp) BC0
         have ⟨M1, D1, G1'⟩ := hkV.blk (by simp) BC1
         have ⟨M5, D5, G5'⟩ := hkV.blk (by simp) B5
         have ⟨M6, D6, G6'⟩ := hkV.blk (by simp) B6
         have ⟨Mg, Dg, Gg⟩ := Bg
         have HNV := Lib.hid (HN.out.later hBV)
         have HEV := Lib.hid (HE.out.later hBV)
         clear C0' C1' C5 C6 F0' F1' F5 F6 u1 u2 u3 eg
         have HF3 : Hid (Sp.fitsB ns es ⟨ea, eb, ek, (x : Int)⟩ = (if (ek = 3 ∧ k1 ≠ 3) ∨ (ek = 4 ∧ k1 ≠ 4) then false else decide (k3 = 2) && Sp.callsB ns es x f1 && decide (f2 = f3) && decide (k2 ≠ 1))) := by
           show Sp.fitsB ns es ⟨ea, eb, ek, (x : Int)⟩ = _
           rw [HF.out]
           unfold Sp.fitsN
           rw [Int.toNat_natCast, E3.out, if_neg (by omega), if_neg h2]
         clear HF
         have H1 := Lib.hid h1
         have H5 := Lib.hid h5
         have H2 := Lib.hid h2
         clear h1 h5 h2
         by_cases hbad : (ek = 3 ∧ k1 ≠ 3) ∨ (ek = 4 ∧ k1 ≠ 4)
         · have HV : Hid (Sp.fitsB ns es ⟨ea, eb, ek, (x : Int)⟩ = false) := Lib.hid (by rw [HF3.out, if_pos hbad])
           rcases hbad with ⟨rfl, hb1⟩ | ⟨rfl, hb1⟩
           · have v1 : (k1 != 3) = true := by simpa using hb1
             go_wp2_with fail
             all_goals
               go_ret
               exact ⟨ret_bool HV.out.symm, hBV⟩
           · have v1 : (k1 != 4) = true := by simpa using hb1
             go_wp2_with fail
             all_goals
               go_ret
               exact ⟨ret_bool HV.out.symm, hBV⟩
         · have HV : Hid (Sp.fitsB ns es ⟨ea, eb, ek, (x : Int)⟩ = (decide (k3 = 2) && Sp.callsB ns es x f1 && decide (f2 = f3) && decide (k2 ≠ 1))) := Lib.hid (by rw [HF3.out, if_neg hbad])
           have hcase : ((ek == 3) = true ∧ (k1 != 3) = false ∧ (ek == 4) = false) ∨ ((ek == 3) = false ∧ (ek == 4) = true ∧ (k1 != 4) = false) ∨ ((ek == 3) = false ∧ (ek == 4) = false) := by
             by_cases e9 : ek = 3
             · left; refine ⟨by simpa using e9, ?_, ?_⟩
               · have : k1 = 3 := by omega
                 simp [this]
               · simp; omega
             · by_cases e8 : ek = 4
               · right; left; refine ⟨by simpa using e9, by simpa using e8, ?_⟩
                 have : k1 = 4 := by omega
                 simp [this]
               · right; right; exact ⟨by simpa using e9, by simpa using e8⟩
           clear hbad HF3
           by_cases z2 : k3 = 2
           · have z2' : (k3 == 2) = true := by simpa using z2
             have Z2 := Lib.hid z2
             clear z2
             rcases hcase with ⟨v1, v2, v3⟩ | ⟨v1, v2, v3⟩ | ⟨v1, v2⟩
             all_goals
               go_wp2_with fail
               refine (calls_any _ _ _ _ _ _ _ _ _ ns es _ HNV.out HEV.out hs hs2).mono ?_
               rintro e w5 ⟨rfl, hb5⟩
               have hk5 : Kept [] V w5 := (Kept.refl _ _).call hb5
               have ⟨hc5, hf5, hg5⟩ := hk5.rules
               have hB5 := below_step hBV.size hBV hb5
               by_cases z3 : Sp.callsB ns es x f1 = true
               · rw [z3]
                 have Z3 := Lib.hid z3
                 clear z3
                 by_cases z4 : f2 = f3
                 · have z4' : (f2 == f3) = true := by simpa using z4
                   have Z4 := Lib.hid z4
                   clear z4
                   by_cases z5 : k2 = 1
                   · have z5' : (k2 != 1) = false := by simp [z5]
                     have HV5 : Hid (Sp.fitsB ns es ⟨ea, eb, ek, (x : Int)⟩ = false) := Lib.hid (by rw [HV.out]; simp [z5])
                     clear z5
                     go_wp2_with fail
                     go_ret
                     exact ⟨ret_bool HV5.out.symm, hB5⟩
                   · have z5' : (k2 != 1) = true := by simpa using z5
                     have HV5 : Hid (Sp.fitsB ns es ⟨ea, eb, ek, (x : Int)⟩ = true) := Lib.hid (by rw [HV.out, Z2.out, Z3.out, Z4.out]; simp [z5])
                     clear z5
                     go_wp2_with fail
                     go_ret
                     exact ⟨ret_bool HV5.out.symm, hB5⟩
                 · have z4' : (f2 == f3) = false := by simpa using z4
                   have HV5 : Hid (Sp.fitsB ns es ⟨ea, eb, ek, (x : Int)⟩ = false) := Lib.hid (by rw [HV.out]; simp [z4])
                   clear z4
                   go_wp2_with fail
                   go_ret
                   exact ⟨ret_bool HV5.out.symm, hB5⟩
               · rw [Bool.not_eq_true] at z3
                 have HV5 : Hid (Sp.fitsB ns es ⟨ea, eb, ek, (x : Int)⟩ = false) := Lib.hid (by rw [HV.out, z3]; simp)
                 rw [z3]
                 clear z3
                 go_wp2_with fail
                 go_ret
                 exact ⟨ret_bool HV5.out.symm, hB5⟩
           · have z2' : (k3 == 2) = false := by simpa using z2
             have HV5 : Hid (Sp.fitsB ns es ⟨ea, eb, ek, (x : Int)⟩ = false) := Lib.hid (by rw [HV.out]; simp [z2])
             clear z2
             rcases hcase with ⟨v1, v2, v3⟩ | ⟨v1, v2, v3⟩ | ⟨v1, v2⟩
             all_goals
               go_wp2_with fail
               go_ret
               exact ⟨ret_bool HV5.out.symm, hBV⟩
end Go.Proofs.YtooejoajojanjaaGreatDoor
