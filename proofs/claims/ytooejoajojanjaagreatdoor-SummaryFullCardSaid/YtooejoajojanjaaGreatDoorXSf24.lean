/- Texts: Kf Nrz At. -/
import Derived.Test.YtooejoajojanjaaGreatDoorXSf07
import Derived.Test.YtooejoajojanjaaGreatDoorXSf03
import Derived.Test.YtooejoajojanjaaGreatDoorXSf23
import Derived.Test.YtooejoajojanjaaGreatDoorXSf05
namespace Go.Df
open Go.RowKit
end Go.Df
namespace Go.Proofs.YtooejoajojanjaaGreatDoor
open Go.RowKit Go.Df Go.Df.If
attribute [local go_sem ↓] Go.wp_at_zero Go.wp_at_succ
set_option maxHeartbeats 1000000 in
theorem rpbefore_any (a b c d : Int) (w : World) :
   Calls Tryz.prog 109 #[.agg #[.int .i64 a, .int .i64 b], .agg #[.int .i64 c, .int .i64 d]] w fun e w' => e = .returned (.bool (lessR ⟨a, b⟩ ⟨c, d⟩)) ∧ Below w.heap.size w w' := by
 go_enter Tryz.func109, Tryz.ntmps109
 go_wp2
 all_goals (go_ret; refine ⟨ret_bool ?_, by go_grown⟩; unfold lessR; simp_all; try omega)
set_option maxHeartbeats 1000000 in
theorem rsbefore_any (a b c d : Int) (w : World) :
   Calls Tryz.prog 62 #[.agg #[.int .i64 a, .int .i64 b], .agg #[.int .i64 c, .int .i64 d]] w fun e w' => e = .returned (.bool (lessD ⟨a, b⟩ ⟨c, d⟩)) ∧ Below w.heap.size w w' := by
 go_enter Tryz.func62, Tryz.ntmps62
 go_wp2
 all_goals (go_ret; refine ⟨ret_bool ?_, by go_grown⟩; unfold lessD; simp_all; try omega)
set_option maxHeartbeats 1000000 in
theorem rfits_any (a b F : Int) (w : World) :
   Calls Tryz.prog 108 #[.agg #[.int .i64 a, .int .i64 b], .int .i64 F] w fun e w' => e = .returned (.bool (decide (¬ (a < 0 ∨ F ≤ a ∨ b < 0 ∨ F ≤ b)))) ∧ Below w.heap.size w w' := by
 go_enter Tryz.func108, Tryz.ntmps108
 go_wp2
 all_goals (go_ret; refine ⟨ret_bool ?_, by go_grown⟩; (first | (simp_all; done) | (simp_all; omega) | (rw [eq_comm, decide_eq_true_eq]; omega) | (rw [eq_comm, decide_eq_false_iff_not]; omega)))
set_option maxRecDepth 100000 in
set_option maxHeartbeats 8000000 in
theorem rfcheck_any (A : Option Addr) (n c : Nat) (F : Int) (l : List Pr) (w : World) (hp : Prs w A n l) :
   Calls Tryz.prog 61 #[.slice A n c, .int .i64 F] w fun e w' => e = .returned (.int .i64 (flErr F l)) ∧ Below w.heap.size w w' := by
 have HP := Lib.hid hp
 have HL := Lib.hid hp.1
 clear hp
 by_cases f0 : F < 1
 · have z : decide (F < 1) = true := by simpa using f0
   have hE : Hid (flErr F l = 4) := by show _ = _; unfold flErr; rw [if_pos (by omega)]
   go_enter Tryz.func61, Tryz.ntmps61
   go_wp2_with fail
   go_ret
   exact ⟨ret_int hE.out.symm, Below.refl _ _⟩
 have zf0 : decide (F < 1) = false := by simpa using f0
 by_cases f1 : 1024 < F
 · have z : decide (1024 < F) = true := by simpa using f1
   have hE : Hid (flErr F l = 4) := by show _ = _; unfold flErr; rw [if_pos (by omega)]
   go_enter Tryz.func61, Tryz.ntmps61
   go_wp2_with fail
   go_ret
   exact ⟨ret_int hE.out.symm, Below.refl _ _⟩
 have zf1 : decide (1024 < F) = false := by simpa using f1
 by_cases t1 : 8192 < n
 · have d1 : decide ((8192 : Int) < n) = true := by simp; omega
   have hE : Hid (flErr F l = 3) := by show _ = _; unfold flErr; rw [if_neg (by omega), HL.out, if_pos (by omega)]
   go_enter Tryz.func61, Tryz.ntmps61
   go_wp2_with fail
   go_ret
   exact ⟨ret_int hE.out.symm, Below.refl _ _⟩
 have d1 : decide ((8192 : Int) < n) = false := by simp; omega
 have HF1 : Hid (1 ≤ F) := by show _ ≤ _; omega
 have HF2 : Hid (F ≤ 1024) := by show _ ≤ _; omega
 have h8 : Hid (l.length ≤ 8192) := by show _ ≤ _; rw [HL.out]; omega
 have hn8 : n ≤ 8192 := by omega
 clear f0 f1 t1
 go_enter Tryz.func61, Tryz.ntmps61
 go_wp2_with fail
 go_loopw [5, 6] (fun z i wr => ∃ j : Nat, j ≤ n ∧ i = .int .i64 j ∧ z = .bool (decide (∃ x, x < j ∧ gp l x = ⟨0, 0⟩)) ∧ Kept [] w wr ∧ Hid (∀ x, x < j → prErr F l x = 0)) (fun _ i _ => n - (intOf i).toNat)
 case atStart => exact ⟨0, Nat.zero_le _, rfl, congrArg Value.bool (by simp), Kept.refl _ _, Lib.hid (fun j hj => absurd hj (by omega))⟩
 case round =>
   obtain ⟨j, hj, rfl, rfl, hkr, hno⟩ := hrel
   obtain ⟨zz, hzz⟩ : ∃ zz, decide (∃ x, x < j ∧ gp l x = (⟨0, 0⟩ : Pr)) = zz := ⟨_, rfl⟩
   rw [hzz]
   have HZZ := Lib.hid hzz
   clear hzz
   have hBr := hkr.toBelow
   by_cases hlt : j < n
   · obtain ⟨b, o, rfl, hl, hc⟩ := (HP.out.later hBr).2 (by omega)
     obtain ⟨h1, h2⟩ := hc j hlt
     have HC := Lib.hid hc
     have LB := Lib.hid hl
     clear hc
     obtain ⟨xi, xo, en⟩ : ∃ xi xo, gp l j = ⟨xi, xo⟩ := ⟨_, _, rfl⟩
     rw [en] at h1 h2
     have HE := Lib.hid en
     clear en
     have hj9 : (j : Int) < (n : Int) := by omega
     have hbad : Hid (∀ e, prErr F l j = e → e ≠ 0 → flErr F l = e) := fun e h1 h2 => fl_hit HF1.out HF2.out h8.out hno.out (by rw [HL.out]; exact hlt) h1 h2
     have hstep : Hid (prErr F l j = 0 → ∀ x, x < j + 1 → prErr F l x = 0) := fun h0 x hx => by
       rcases Nat.lt_or_ge x j with h9 | h9
       · exact hno.out x h9
       · obtain rfl : x = j := by omega
         exact h0
     have HEr : Hid (prErr F l j = if xi < 0 ∨ F ≤ xi ∨ xo < 0 ∨ F ≤ xo then 4 else if 0 < j ∧ lessR (gp l (j - 1)) ⟨xi, xo⟩ = false then 13 else 0) := by
       show _ = _
       unfold prErr
       rw [HE.out]
     go_wp2_with fail
     refine (rfits_any xi xo F _).mono ?_
     rintro e w3 ⟨rfl, hb3⟩
     have hk3 : Kept [] wr w3 := (Kept.refl _ _).call hb3
     have hkw3 : Kept [] w w3 := hkr.call hb3
     by_cases r0 : xi < 0 ∨ F ≤ xi ∨ xo < 0 ∨ F ≤ xo
     · rw [decide_eq_false (not_not_intro r0)]
       have hE := Lib.hid (hbad.out 4 (by rw [HEr.out, if_pos r0]) (by omega))
       clear r0
       go_wp2_with fail
       go_ret
       exact ⟨ret_int hE.out.symm, hkw3.toBelow⟩
     rw [decide_eq_true r0]
     have HEy : Hid (prErr F l j = if 0 < j ∧ lessR (gp l (j - 1)) ⟨xi, xo⟩ = false then 13 else 0) := by
       show _ = _
       rw [HEr.out, if_neg r0]
     clear HEr r0
     replace h1 := (hk3.cell b _ LB.out (by simp)).trans h1
     replace h2 := (hk3.cell b _ LB.out (by simp)).trans h2
     have hb3' : b < w3.heap.size := Nat.lt_of_lt_of_le LB.out hk3.size
     have HNZ : Hid ((zz || (decide (xi = 0) && decide (xo = 0))) = decide (∃ x, x < j + 1 ∧ gp l x = (⟨0, 0⟩ : Pr))) := by
       show _ = _
       rw [← HZZ.out, Bool.eq_iff_iff]
       simp
       constructor
       · rintro (⟨x, h1, h2⟩ | ⟨h1, h2⟩)
         · exact ⟨x, by omega, h2⟩
         · exact ⟨j, by omega, by rw [HE.out, h1, h2]⟩
       · rintro ⟨x, h1, h2⟩
         rcases Nat.lt_or_ge x j with h3 | h3
         · exact .inl ⟨x, h3, h2⟩
         · have hxj : x = j := by omega
           rw [hxj, HE.out] at h2
           exact .inr (by simpa using h2)
     by_cases hj0 : j = 0
     · have y1 : decide (0 < j) = false := by simp; omega
       have y2 : decide ((0 : Int) < (j : Int)) = false := by simp; omega
       have hfin := Lib.hid (hstep.out (by rw [HEy.out, if_neg (by omega)]))
       clear hj0
       go_upto_region 11 with fail
       go_quiet (fail)
       by_cases exi : xi = 0
       case neg =>
         have fxi : (xi == 0) = false := by simpa using exi
         have HN2 : Hid (decide (∃ x, x < j + 1 ∧ gp l x = (⟨0, 0⟩ : Pr)) = zz) := by show _ = _; rw [← HNZ.out, decide_eq_false exi]; simp
         clear exi
         cases zz <;> (go_wp2_with fail; exact ⟨⟨j + 1, by omega, by go_num, by rw [HN2.out], hkw3.drewN _, hfin⟩, by simp [intOf]; omega⟩)
       have fxi : (xi == 0) = true := by simpa using exi
       by_cases exo : xo = 0
       · have fxo : (xo == 0) = true := by simpa using exo
         have HN2 : Hid (decide (∃ x, x < j + 1 ∧ gp l x = (⟨0, 0⟩ : Pr)) = true) := by show _ = _; rw [← HNZ.out, decide_eq_true exi, decide_eq_true exo]; simp
         clear exo exi
         cases zz <;> (go_wp2_with fail; exact ⟨⟨j + 1, by omega, by go_num, by rw [HN2.out], hkw3.drewN _, hfin⟩, by simp [intOf]; omega⟩)
       · have fxo : (xo == 0) = false := by simpa using exo
         have HN2 : Hid (decide (∃ x, x < j + 1 ∧ gp l x = (⟨0, 0⟩ : Pr)) = zz) := by show _ = _; rw [← HNZ.out, decide_eq_false exo]; simp
         clear exo exi
         cases zz <;> (go_wp2_with fail; exact ⟨⟨j + 1, by omega, by go_num, by rw [HN2.out], hkw3.drewN _, hfin⟩, by simp [intOf]; omega⟩)
     have y1 : decide (0 < j) = true := by simp; omega
     have y2 : decide ((0 : Int) < (j : Int)) = true := by simp; omega
     have y3 : IntKind.i64.wrap ((j : Int) - 1) = (j : Int) - 1 := IntWalk.i64_in _ (by omega)
     have y4 : (0 : Int) ≤ (j : Int) - 1 := by omega
     have y5 : ((j : Int) - 1).toNat = j - 1 := by omega
     have y6 : (j : Int) - 1 < (n : Int) := by omega
     have y7 : 0 < j := by omega
     have y8 : 1 ≤ j := by omega
     have y9 : (1 : Int) ≤ (j : Int) := by omega
     have y10 : j ≤ n := by omega
     have y11 : j < n + 1 := by omega
     have y12 : (j : Int) < (n : Int) + 1 := by omega
     have y13 : (j : Int) ≤ (n : Int) := by omega
     obtain ⟨p1, p2⟩ := HC.out (j - 1) (by omega)
     obtain ⟨pi, po, ep⟩ : ∃ pi po, gp l (j - 1) = ⟨pi, po⟩ := ⟨_, _, rfl⟩
     rw [ep] at p1 p2
     have q1 : w3.cell? ⟨b, o + (j - 1) * 2, none⟩ = some (.int .i64 pi) := (hk3.cell b _ LB.out (by simp)).trans p1
     have q2 : w3.cell? ⟨b, o + (j - 1) * 2 + 1, none⟩ = some (.int .i64 po) := (hk3.cell b _ LB.out (by simp)).trans p2
     have HEx : Hid (prErr F l j = if lessR ⟨pi, po⟩ ⟨xi, xo⟩ = false then 13 else 0) := by
       show _ = _
       rw [HEy.out, ep]
       simp [y7]
     clear p1 p2 ep hj0
     go_upto_region 11 with fail
     go_cut [43] (fun s wx => s = .bool (!lessR ⟨pi, po⟩ ⟨xi, xo⟩) ∧ Kept [] w3 wx)
     case first =>
       go_region_held3 (fun w' => SX0 w3 w') (exact kp0)
         (first | (go_at_call 109; refine (rpbefore_any pi po xi xo _).mono ?_; rintro e w4 ⟨rfl, hb4⟩; obtain ⟨hc4, hf4, hg4⟩ := bcell hb4; have hz4 := hb4.size; try simp at hz4))
       all_goals
         go_wp2_with fail
         go_meet
         refine ⟨rfl, ?_⟩
         (exact kpt0)
     case rest =>
       obtain ⟨rfl, hkc⟩ := hcut
       have hkwc : Kept [] w wc := keptTrans hkw3 hkc
       replace h1 := (hkc.cell b _ hb3' (by simp)).trans h1
       replace h2 := (hkc.cell b _ hb3' (by simp)).trans h2
       have hbc : b < wc.heap.size := Nat.lt_of_lt_of_le hb3' hkc.size
       clear q1 q2
       by_cases hles : lessR ⟨pi, po⟩ ⟨xi, xo⟩ = true
       · rw [hles]
         have hfin := Lib.hid (hstep.out (by rw [HEx.out, hles, if_neg (by simp)]))
         clear hles
         by_cases exi : xi = 0
         case neg =>
           have fxi : (xi == 0) = false := by simpa using exi
           have HN2 : Hid (decide (∃ x, x < j + 1 ∧ gp l x = (⟨0, 0⟩ : Pr)) = zz) := by show _ = _; rw [← HNZ.out, decide_eq_false exi]; simp
           clear exi
           cases zz <;> (go_wp2_with fail; exact ⟨⟨j + 1, by omega, by go_num, by rw [HN2.out], hkwc, hfin⟩, by simp [intOf]; omega⟩)
         have fxi : (xi == 0) = true := by simpa using exi
         by_cases exo : xo = 0
         · have fxo : (xo == 0) = true := by simpa using exo
           have HN2 : Hid (decide (∃ x, x < j + 1 ∧ gp l x = (⟨0, 0⟩ : Pr)) = true) := by show _ = _; rw [← HNZ.out, decide_eq_true exi, decide_eq_true exo]; simp
           clear exo exi
           cases zz <;> (go_wp2_with fail; exact ⟨⟨j + 1, by omega, by go_num, by rw [HN2.out], hkwc, hfin⟩, by simp [intOf]; omega⟩)
         · have fxo : (xo == 0) = false := by simpa using exo
           have HN2 : Hid (decide (∃ x, x < j + 1 ∧ gp l x = (⟨0, 0⟩ : Pr)) = zz) := by show _ = _; rw [← HNZ.out, decide_eq_false exo]; simp
           clear exo exi
           cases zz <;> (go_wp2_with fail; exact ⟨⟨j + 1, by omega, by go_num, by rw [HN2.out], hkwc, hfin⟩, by simp [intOf]; omega⟩)
       · rw [Bool.not_eq_true] at hles
         rw [hles]
         have hE := Lib.hid (hbad.out 13 (by rw [HEx.out, hles, if_pos rfl]) (by omega))
         clear hles
         go_wp2_with fail
         go_ret
         exact ⟨ret_int hE.out.symm, hkwc.toBelow⟩
   · obtain rfl : j = n := by omega
     have hall : Hid (∀ x, x < l.length → prErr F l x = 0) := fun x hx => hno.out x (by rw [HL.out] at hx; exact hx)
     have HZ := Lib.hid (fl_end HF1.out HF2.out h8.out hall.out)
     clear hno hlt
     cases zz with
     | true =>
       have hE : Hid (flErr F l = 0) := by
         show _ = _
         have h1 := of_decide_eq_true HZZ.out
         obtain ⟨x, hx, h2⟩ := h1
         rw [HZ.out, if_neg]
         rintro (h3 | h3)
         · rw [HL.out] at h3; omega
         · exact h3 (pr_first hall.out (by rw [HL.out]; exact hx) h2)
       go_wp2_with fail
       go_ret
       exact ⟨ret_int hE.out.symm, hkr.toBelow⟩
     | false =>
       have hE : Hid (flErr F l = 1) := by
         show _ = _
         have h1 := of_decide_eq_false HZZ.out
         rw [HZ.out, if_pos]
         by_cases h3 : l.length = 0
         · exact .inl h3
         · exact .inr (fun h4 => h1 ⟨0, by rw [HL.out] at h3; omega, h4⟩)
       go_wp2_with fail
       go_ret
       exact ⟨ret_int hE.out.symm, hkr.toBelow⟩
theorem rfcheck_is (A : Option Addr) (n c : Nat) (F : Int) (l : List Pr) (w : World) (hp : Prs w A n l) (pe : Int) (hpe : flErr F l = pe) :
   Calls Tryz.prog 61 #[.slice A n c, .int .i64 F] w fun e w' => e = .returned (.int .i64 pe) ∧ Below w.heap.size w w' := by
 rw [← hpe]
 exact rfcheck_any A n c F l w hp
set_option maxRecDepth 100000 in
set_option maxHeartbeats 8000000 in
theorem rifdsck_any (A1 A2 A3 A4 : Option Addr) (n1 c1 n2 c2 n3 c3 n4 c4 : Nat) (mn F : Int) (ns : List Sp.Nd) (es : List Sp.Ed) (ls : List (List Pr)) (sd : List Sd) (w : World) (hn : Nds w A1 n1 ns) (he : Eds w A2 n2 es) (hf : Flw w A3 n3 ls) (hsd : Sds w A4 n4 sd) (h4 : n4 ≤ 9223372036854775807) (hwn : ∀ j, j < n1 → (Lit.int .i64 (gn ns j).f).wf = true) (hwe : ∀ j, j < n2 → (Lit.int .i64 (ge es j).a).wf = true ∧ (Lit.int .i64 (ge es j).b).wf = true) :
   Calls Tryz.prog 28 #[.agg #[.slice A1 n1 c1, .slice A2 n2 c2, .int .i64 mn, .int .i64 F, .slice A3 n3 c3, .slice A4 n4 c4]] w fun e w' => e = .returned (.int .i64 (pbErr ⟨ns, es, mn, F, ls, sd⟩)) ∧ Below w.heap.size w w' := by
 obtain ⟨pe0, hpe0⟩ : ∃ x, pbErr ⟨ns, es, mn, F, ls, sd⟩ = x := ⟨_, rfl⟩
 rw [hpe0]
 have HPB := Lib.hid hpe0
 clear hpe0
 have HN := Lib.hid hn
 have HE := Lib.hid he
 have HF := Lib.hid hf
 have HS := Lib.hid hsd
 have HL1 := Lib.hid hn.1
 have HL2 := Lib.hid he.1
 have HL3 := Lib.hid hf.1
 have HL4 := Lib.hid hsd.1
 have HWN := Lib.hid hwn
 have HWE := Lib.hid hwe
 clear hn he hf hsd hwn hwe
 go_enter Tryz.func28, Tryz.ntmps28
 go_upto_region 1 with fail
 refine wp_named (fun W => ∃ b0, w.heap.size = b0 ∧ Blk W b0 [.slice A1 n1 c1, .slice A2 n2 c2, .int .i64 mn, .int .i64 F, .slice A3 n3 c3, .slice A4 n4 c4] ∧ Below w.heap.size w W) ⟨_, rfl, ?_, ?_⟩ ?_
 · exact kbn
 · go_grown
 rintro W ⟨b0, e0, B0, hB⟩
 rw [e0]
 have G0 : w.heap.size ≤ b0 := by omega
 clear e0
 have ⟨L0, C0, F0⟩ := B0
 go_wp2_with fail
 refine (rsuper_any _ _ _ _ _ _ _ ns es _ (HN.out.later hB) (HE.out.later hB)).mono ?_
 rintro e w1 ⟨rfl, hb1⟩
 have hk1 : Kept [] W w1 := (Kept.refl _ _).call hb1
 have hB1 := hk1.below hB hB.size (by simp)
 have ⟨L1, C1, F1⟩ := hk1.blk (by simp) B0
 clear C0 F0
 obtain ⟨se, hse⟩ : ∃ x, Sp.superErr ns es mn = x := ⟨_, rfl⟩
 rw [hse]
 have HSE := Lib.hid hse
 clear hse
 by_cases h0 : se = 0
 case neg =>
   have h0' : (se != 0) = true := by simpa using h0
   have hE : Hid (pe0 = se) := by show _ = _; rw [← HPB.out]; unfold pbErr; rw [HSE.out, if_pos h0]
   clear h0
   go_wp2_with fail
   go_ret
   exact ⟨ret_int hE.out.symm, hB1⟩
 subst h0
 by_cases f1 : F < 1
 · have z : decide (F < 1) = true := by simpa using f1
   have hE : Hid (pe0 = 4) := by show _ = _; rw [← HPB.out]; unfold pbErr; rw [HSE.out, if_neg (by simp), if_pos (show F < 1 ∨ 1024 < F by omega)]
   go_wp2_with fail
   go_ret
   exact ⟨ret_int hE.out.symm, hB1⟩
 have z1 : decide (F < 1) = false := by simpa using f1
 by_cases f2 : 1024 < F
 · have z : decide (1024 < F) = true := by simpa using f2
   have hE : Hid (pe0 = 4) := by show _ = _; rw [← HPB.out]; unfold pbErr; rw [HSE.out, if_neg (by simp), if_pos (show F < 1 ∨ 1024 < F by omega)]
   go_wp2_with fail
   go_ret
   exact ⟨ret_int hE.out.symm, hB1⟩
 have z2 : decide (1024 < F) = false := by simpa using f2
 have HFF : Hid (¬ (F < 1 ∨ 1024 < F)) := by show ¬ _; omega
 by_cases f3 : n3 = n2
 case neg =>
   have y1 : ((n3 : Int) != (n2 : Int)) = true := by simp; omega
   have y2 : (n3 != n2) = true := by simp; omega
   have hE : Hid (pe0 = 20) := by show _ = _; rw [← HPB.out]; unfold pbErr; rw [HSE.out, if_neg (by simp), if_neg HFF.out, if_pos (by rw [HL3.out, HL2.out]; exact f3)]
   go_wp2_with fail
   go_ret
   exact ⟨ret_int hE.out.symm, hB1⟩
 have y1 : ((n3 : Int) != (n2 : Int)) = false := by simp; omega
 have y2 : (n3 != n2) = false := by simp; omega
 have HLL : Hid (ls.length = es.length) := by show _ = _; rw [HL3.out, HL2.out]; exact f3
 have hn2 : n2 ≤ 32768 := by
   have h1 := HSE.out
   unfold Sp.superErr at h1
   rw [HL1.out, HL2.out] at h1
   split at h1
   · cases h1
   · omega
 subst f3
 clear f1 f2
 go_wp2_with fail
 go_loopw [4] (fun i wr => ∃ j : Nat, j ≤ n3 ∧ i = .int .i64 j ∧ Kept [] W wr ∧ Hid (∀ x, x < j → flErr F (gf ls x) = 0)) (fun i _ => n3 - (intOf i).toNat)
 case atStart => exact ⟨0, Nat.zero_le _, rfl, hk1, Lib.hid (fun j hj => absurd hj (by omega))⟩
 case round =>
   obtain ⟨j, hj, rfl, hkr, hno⟩ := hrel
   have BR := hkr.blk (by simp) B0
   have ⟨LR, CR, FR⟩ := BR
   have hBr := hkr.below hB hB.size (by simp)
   clear C1 F1
   by_cases hlt : j < n3
   · obtain ⟨b, o, rfl, hl, hc⟩ := (HF.out.later hBr).2 (by omega)
     obtain ⟨Ai, ni, ci, h1, -, hx⟩ := hc j hlt
     have HX := Lib.hid hx
     clear hc hx
     have hbad : Hid (∀ e, flErr F (gf ls j) = e → e ≠ 0 → pe0 = e) := fun e h1 h2 => HPB.out.symm.trans (pb_flow (p := ⟨ns, es, mn, F, ls, sd⟩) HSE.out HFF.out HLL.out hno.out (by show _ < ls.length; rw [HL3.out]; exact hlt) h1 h2)
     have hstep : Hid (flErr F (gf ls j) = 0 → ∀ x, x < j + 1 → flErr F (gf ls x) = 0) := fun h0 x hx => by
       rcases Nat.lt_or_ge x j with h9 | h9
       · exact hno.out x h9
       · obtain rfl : x = j := by omega
         exact h0
     obtain ⟨pe, hpe⟩ : ∃ x, flErr F (gf ls j) = x := ⟨_, rfl⟩
     have HPE := Lib.hid hpe
     clear hpe
     have x3 : (j : Int) < (n3 : Int) := by omega
     go_upto_region 11 with fail
     go_cut [5] (fun s wx => s = .int .i64 pe ∧ Kept [] wr wx)
     case first =>
       go_region_held3 (fun w' => SX0 wr w') (exact kp0)
         (first | (go_at_call 61; ((with_reducible refine (rfcheck_is _ _ _ F (gf ls j) _ (HX.out.later (Kept.toBelow (by (exact kpt0)))) pe HPE.out).mono ?_)); rintro e w3 ⟨rfl, hb3⟩; obtain ⟨hc3, hf3, hg3⟩ := bcell hb3; have hz3 := hb3.size; try simp at hz3))
       all_goals
         go_wp2_with fail
         go_meet
         refine ⟨rfl, ?_⟩
         (exact kpt0)
     case rest =>
     obtain ⟨rfl, hkc⟩ := hcut
     rename World => w5
     clear CR FR h1
     have hk5 : Kept [] W w5 := keptTrans hkr hkc
     have hB5 := hk5.below hB hB.size (by simp)
     by_cases hx0 : pe = 0
     · have hx0' : (pe != 0) = false := by simpa using hx0
       have hfin := Lib.hid (hstep.out (HPE.out.trans hx0))
       clear hx0
       go_wp2_with fail
       exact ⟨⟨j + 1, by omega, by go_num, hk5, hfin⟩, by simp [intOf]; omega⟩
     · have hx0' : (pe != 0) = true := by simpa using hx0
       have hE := Lib.hid (hbad.out pe HPE.out hx0)
       clear hx0
       go_wp2_with fail
       go_ret
       exact ⟨ret_int hE.out.symm, hB5⟩
   · obtain rfl : j = n3 := by omega
     have hall : Hid (∀ x, x < ls.length → flErr F (gf ls x) = 0) := fun x hx => hno.out x (by rw [HL3.out] at hx; exact hx)
     have HN3 : Hid (es.length = j) := Lib.hid HL2.out
     clear hno hlt hj
     go_wp2_with fail
     go_loopw [6] (fun i wz => ∃ q : Nat, q ≤ n4 ∧ i = .int .i64 q ∧ Kept [] W wz ∧ Hid (∀ x, x < q → sdErr n1 F sd x = 0)) (fun i _ => n4 - (intOf i).toNat)
     case atStart => exact ⟨0, Nat.zero_le _, rfl, hkr, Lib.hid (fun j hj => absurd hj (by omega))⟩
     case round =>
       rename World => wz
       obtain ⟨q, hq, rfl, hkz, hno⟩ := hrel
       have BZ := hkz.blk (by simp) B0
       have ⟨LZ, CZ, FZ⟩ := BZ
       have hBz := hkz.below hB hB.size (by simp)
       clear CR FR
       by_cases hlt : q < n4
       case neg =>
         obtain rfl : q = n4 := by omega
         have hE : Hid (pe0 = 0) := Lib.hid (HPB.out.symm.trans (pb_ok (p := ⟨ns, es, mn, F, ls, sd⟩) HSE.out HFF.out HLL.out hall.out (fun x hx => by show sdErr ns.length F sd x = 0; rw [HL1.out]; exact hno.out x (by rw [← HL4.out]; exact hx))))
         go_wp2_with fail
         go_ret
         exact ⟨ret_int hE.out.symm, hBz⟩
       obtain ⟨b, o, rfl, hl, hc⟩ := (HS.out.later hBz).2 (by omega)
       obtain ⟨h1, h2⟩ := hc q hlt
       have HC := Lib.hid hc
       have LB := Lib.hid hl
       clear hc
       obtain ⟨sn, sf, en⟩ : ∃ sn sf, gd sd q = ⟨sn, sf⟩ := ⟨_, _, rfl⟩
       rw [en] at h1 h2
       have HEe := Lib.hid en
       clear en
       go_upto_region 18 with fail
       refine wp_named (fun V => ∃ g, wz.heap.size = g ∧ Blk V g [.int .i64 sn, .int .i64 sf] ∧ Kept [] wz V) ⟨_, rfl, Blk.new _ _ _ _ rfl, (Kept.refl _ _).alloc _⟩ ?_
       rintro V ⟨g, eg, Bg, hkV⟩
       rw [eg]
       have hkw : Kept [] W V := keptTrans hkz hkV
       have ⟨LG, CG, FG⟩ := Bg
       have BV := hkw.blk (by simp) B0
       have ⟨LV, CV, FV⟩ := BV
       have hBV := hkw.below hB hB.size (by simp)
       clear CZ FZ h1 h2 eg
       have hbad : Hid (∀ e, sdErr n1 F sd q = e → e ≠ 0 → pe0 = e) := fun e h1 h2 => HPB.out.symm.trans (pb_seed (p := ⟨ns, es, mn, F, ls, sd⟩) HSE.out HFF.out HLL.out hall.out (j := q) (fun x hx => by show sdErr ns.length F sd x = 0; rw [HL1.out]; exact hno.out x hx) (by show _ < sd.length; rw [HL4.out]; exact hlt) (by show sdErr ns.length F sd q = e; rw [HL1.out]; exact h1) h2)
       have hstep : Hid (sdErr n1 F sd q = 0 → ∀ x, x < q + 1 → sdErr n1 F sd x = 0) := fun h0 x hx => by
         rcases Nat.lt_or_ge x q with h9 | h9
         · exact hno.out x h9
         · obtain rfl : x = q := by omega
           exact h0
       have HEr : Hid (sdErr n1 F sd q = if sn < 0 ∨ (n1 : Int) ≤ sn ∨ sf < 1 ∨ F ≤ sf then 4 else if 0 < q ∧ lessD (gd sd (q - 1)) ⟨sn, sf⟩ = false then 13 else 0) := by
         show _ = _
         unfold sdErr
         rw [HEe.out]
       by_cases r0 : sn < 0
       · have z : decide (sn < 0) = true := by simpa using r0
         have hE := Lib.hid (hbad.out 4 (by rw [HEr.out, if_pos (by omega)]) (by omega))
         go_wp2_with fail
         go_ret
         exact ⟨ret_int hE.out.symm, hBV⟩
       have r0' : decide (sn < 0) = false := by simpa using r0
       by_cases r1 : (n1 : Int) ≤ sn
       · have z : decide ((n1 : Int) ≤ sn) = true := by simpa using r1
         have hE := Lib.hid (hbad.out 4 (by rw [HEr.out, if_pos (by omega)]) (by omega))
         go_wp2_with fail
         go_ret
         exact ⟨ret_int hE.out.symm, hBV⟩
       have r1' : decide ((n1 : Int) ≤ sn) = false := by simpa using r1
       by_cases r2 : sf < 1
       · have z : decide (sf < 1) = true := by simpa using r2
         have hE := Lib.hid (hbad.out 4 (by rw [HEr.out, if_pos (by omega)]) (by omega))
         go_wp2_with fail
         go_ret
         exact ⟨ret_int hE.out.symm, hBV⟩
       have r2' : decide (sf < 1) = false := by simpa using r2
       by_cases r3 : F ≤ sf
       · have z : decide (F ≤ sf) = true := by simpa using r3
         have hE := Lib.hid (hbad.out 4 (by rw [HEr.out, if_pos (by omega)]) (by omega))
         go_wp2_with fail
         go_ret
         exact ⟨ret_int hE.out.symm, hBV⟩
       have r3' : decide (F ≤ sf) = false := by simpa using r3
       have HEy : Hid (sdErr n1 F sd q = if 0 < q ∧ lessD (gd sd (q - 1)) ⟨sn, sf⟩ = false then 13 else 0) := by
         show _ = _
         rw [HEr.out, if_neg (by omega)]
       clear HEr r0 r1 r2 r3
       by_cases hq0 : q = 0
       · have y3 : decide (0 < q) = false := by simp; omega
         have y4 : decide ((0 : Int) < (q : Int)) = false := by simp; omega
         have hfin := Lib.hid (hstep.out (by rw [HEy.out, if_neg (by omega)]))
         clear hq0
         go_upto_region 20 with fail
         go_quiet (fail)
         go_wp2_with fail
         exact ⟨⟨q + 1, by omega, by go_num, hkw.drewN _, hfin⟩, by simp [intOf]; omega⟩
       have u1 : decide (0 < q) = true := by simp; omega
       have u2 : decide ((0 : Int) < (q : Int)) = true := by simp; omega
       have u3 : IntKind.i64.wrap ((q : Int) - 1) = (q : Int) - 1 := IntWalk.i64_in _ (by omega)
       have u4 : (0 : Int) ≤ (q : Int) - 1 := by omega
       have u5 : ((q : Int) - 1).toNat = q - 1 := by omega
       have u6 : (q : Int) - 1 < (n4 : Int) := by omega
       have u7 : 0 < q := by omega
       have u8 : 1 ≤ q := by omega
       have u9 : (1 : Int) ≤ (q : Int) := by omega
       have u10 : q ≤ n4 := by omega
       have u11 : q < n4 + 1 := by omega
       have u12 : (q : Int) < (n4 : Int) + 1 := by omega
       have u13 : (q : Int) ≤ (n4 : Int) := by omega
       obtain ⟨p1, p2⟩ := HC.out (q - 1) (by omega)
       obtain ⟨pn, pf, ep⟩ : ∃ pn pf, gd sd (q - 1) = ⟨pn, pf⟩ := ⟨_, _, rfl⟩
       rw [ep] at p1 p2
       have q1 := (hkV.cell b _ LB.out (by simp)).trans p1
       have q2 := (hkV.cell b _ LB.out (by simp)).trans p2
       have hb6' : b < V.heap.size := Nat.lt_of_lt_of_le LB.out hkV.size
       have HEx : Hid (sdErr n1 F sd q = if lessD ⟨pn, pf⟩ ⟨sn, sf⟩ = false then 13 else 0) := by
         show _ = _
         rw [HEy.out, ep]
         simp [u7]
       clear p1 p2 ep hq0 HEy
       go_upto_region 20 with fail
       go_cut [96] (fun s wx => s = .bool (!lessD ⟨pn, pf⟩ ⟨sn, sf⟩) ∧ Kept [] V wx)
       case first =>
         go_region_held3 (fun w' => SX0 V w') (exact kp0)
           (first | (go_at_call 62; refine (rsbefore_any pn pf sn sf _).mono ?_; rintro e w3 ⟨rfl, hb3⟩; obtain ⟨hc3, hf3, hg3⟩ := bcell hb3; have hz3 := hb3.size; try simp at hz3))
         all_goals
           go_wp2_with fail
           go_meet
           refine ⟨rfl, ?_⟩
           (exact kpt0)
       case rest =>
         obtain ⟨rfl, hkc⟩ := hcut
         have hkwc : Kept [] W wc := keptTrans hkw hkc
         by_cases hles : lessD ⟨pn, pf⟩ ⟨sn, sf⟩ = true
         · rw [hles]
           have hfin := Lib.hid (hstep.out (by rw [HEx.out, hles, if_neg (by simp)]))
           clear hles
           go_wp2_with fail
           exact ⟨⟨q + 1, by omega, by go_num, hkwc, hfin⟩, by simp [intOf]; omega⟩
         · rw [Bool.not_eq_true] at hles
           rw [hles]
           have hE := Lib.hid (hbad.out 13 (by rw [HEx.out, hles, if_pos rfl]) (by omega))
           clear hles
           go_wp2_with fail
           go_ret
           exact ⟨ret_int hE.out.symm, hkwc.below hB hB.size (by simp)⟩
end Go.Proofs.YtooejoajojanjaaGreatDoor
namespace Go.Df
open Go.RowKit
abbrev SXv (X : List Nat) (ga gb gc : Nat) (W w' : World) : Prop := Kept X W w' ∧ (∀ o, w'.cell? ⟨ga, o, none⟩ = W.cell? ⟨ga, o, none⟩) ∧ (∀ o, w'.cell? ⟨gb, o, none⟩ = W.cell? ⟨gb, o, none⟩) ∧ (∀ o, w'.cell? ⟨gc, o, none⟩ = W.cell? ⟨gc, o, none⟩)
theorem SXv.of {X : List Nat} {ga gb gc : Nat} {W w' : World} (h : Kept X W w') (ha : ga < W.heap.size) (hb : gb < W.heap.size) (hc : gc < W.heap.size) (xa : ga ∉ X) (xb : gb ∉ X) (xc : gc ∉ X) : SXv X ga gb gc W w' := ⟨h, fun o => h.cell ga o ha xa, fun o => h.cell gb o hb xb, fun o => h.cell gc o hc xc⟩
theorem new3T (w : World) (b : Nat) (u v x : Value) (t : TypeId) (hb : b = w.heap.size) : Rd (w.alloc (.cells #[u, v, x] t)) 3 (some ⟨b, 0, none⟩) 1 [u, v, x] := by
 subst hb
 refine ⟨rfl, fun _ => ⟨_, _, rfl, by simp, fun j _ => ?_⟩⟩
 rw [World.cell?_alloc_new, Nat.zero_add]; simp
end Go.Df
namespace Go.Proofs.YtooejoajojanjaaGreatDoor
open Go.RowKit Go.Df Go.Df.If
attribute [local go_sem ↓] Go.wp_at_zero Go.wp_at_succ
theorem sum_info : (Tryz.prog.info? 30).map (fun i => (i.zero, i.size, i.bytes)) = some (some (.agg #[.int .i64 0, .slice none 0 0, .slice none 0 0]), 3, 56) := by kernel_rfl
set_option maxRecDepth 100000 in
set_option maxHeartbeats 4000000 in
theorem roffunc_any {N F : Nat} {X : List Nat} {bs : Nat → Nat} {r : Nat} {T : Nat → Nat → Nat → Bool} (c : Nat) (A1 A2 A3 A4 : Option Addr) (c1 n2 c2 n3 c3 n4 c4 : Nat) (mn FF f : Int) (ns : List Sp.Nd) (x3 x4 : Nat) (w : World) (hT : TabM N F X bs r w T) (hN8 : N ≤ 8192) (hF8 : F ≤ 1024) (hn : Nds w A1 N ns) (h3 : Sp.kindAt ns f 3 = x3) (h4 : Sp.kindAt ns f 4 = x4) (h3n : x3 < N) (h4n : x4 < N) :
   Calls Tryz.prog 59 #[.agg #[.slice A1 N c1, .slice A2 n2 c2, .int .i64 mn, .int .i64 FF, .slice A3 n3 c3, .slice A4 n4 c4], tabV N F r c, .int .i64 f] w fun e w' => ∃ (E : Option Addr) (ne ce : Nat) (Tt : Option Addr) (nt ct : Nat), e = .returned (.agg #[.int .i64 f, .slice E ne ce, .slice Tt nt ct]) ∧ Prs w' E ne (tabQ F T x3 F) ∧ Prs w' Tt nt (tabQ F T x4 F) ∧ (∀ a, E = some a → w.heap.size ≤ a.block ∧ Tag w' a.block 72) ∧ (∀ a, Tt = some a → w.heap.size ≤ a.block ∧ Tag w' a.block 72) ∧ Below w.heap.size w w' := by
 have HT := Lib.hid hT
 have HN := Lib.hid hn
 have H3 := Lib.hid h3
 have H4 := Lib.hid h4
 have hrl := hT.rl
 clear hT hn h3 h4
 go_enter Tryz.func59, Tryz.ntmps59
 go_upto_region 1 with fail
 refine wp_named (fun W => ∃ b0 b1 b2, w.heap.size = b0 ∧ w.heap.size + 1 = b1 ∧ w.heap.size + 1 + 1 = b2 ∧ Blk W b0 [.slice A1 N c1, .slice A2 n2 c2, .int .i64 mn, .int .i64 FF, .slice A3 n3 c3, .slice A4 n4 c4] ∧ Blk W b1 [.int .i64 (F : Nat), .slice (some ⟨r, 0, none⟩) N c] ∧ Blk W b2 [.int .i64 0, .slice none 0 0, .slice none 0 0] ∧ Below w.heap.size w W) ⟨_, _, _, rfl, rfl, rfl, ?_, ?_, ?_, ?_⟩ ?_
 · exact ((Blk.new _ _ _ _ (by first | rfl | simp)).alloc _).alloc _
 · exact (Blk.new _ _ _ _ (by first | rfl | simp)).alloc _
 · exact kbn
 · go_grown
 rintro W ⟨b0, b1, b2, e0, e1, e2, B0, B1, B2, hB⟩
 rw [e2, e1, e0]
 have G0 : w.heap.size ≤ b0 := by omega
 have n01 : b0 ≠ b1 := by omega
 have n02 : b0 ≠ b2 := by omega
 have G1 : w.heap.size ≤ b1 := by omega
 have n10 : b1 ≠ b0 := by omega
 have n12 : b1 ≠ b2 := by omega
 have G2 : w.heap.size ≤ b2 := by omega
 have n20 : b2 ≠ b0 := by omega
 have n21 : b2 ≠ b1 := by omega
 clear e0 e1 e2
 have ⟨L0, C0, F0⟩ := B0
 have ⟨L1, C1, F1⟩ := B1
 have ⟨L2, C2, F2⟩ := B2
 have hkW : Kept [] w W := (Kept.refl _ _).call hB
 go_upto_region 2 with fail
 refine wp_named (fun V => ∃ g, W.heap.size = g ∧ Blk V g [.int .i64 f, .slice none 0 0, .slice none 0 0] ∧ Kept [] W V) ⟨_, rfl, Blk.new _ _ _ _ rfl, (Kept.refl _ _).alloc _⟩ ?_
 rintro V ⟨g, eg, Bg, hkV⟩
 have hgW : W.heap.size ≤ g := Nat.le_of_eq eg
 rw [eg]
 have hkwV : Kept [] w V := keptTrans hkW hkV
 have B0V := hkV.blk (by simp) B0
 have B1V := hkV.blk (by simp) B1
 have B2V := hkV.blk (by simp) B2
 have hb1g : b1 ≠ g := by have := B1.1; omega
 have hb2g : b2 ≠ g := by have := B2.1; omega
 have ⟨L0V, C0V, F0V⟩ := B0V
 have HB1V := Lib.hid B1V
 have HB2V := Lib.hid B2V
 have HBg := Lib.hid Bg
 clear C0 F0 C1 F1 C2 F2 eg Bg B1V B2V
 go_upto_region 3 with (go_at_call 104; refine (exit_any A1 A2 N c1 n2 c2 mn f ns _ (HN.out.later hkwV.toBelow) (by omega)).mono ?_; rw [H3.out, H4.out]; rintro e w3 ⟨rfl, hb3⟩)
 have hk3 : Kept [] V w3 := (Kept.refl _ _).call hb3
 have hkw3 : Kept [] w w3 := keptTrans hkwV hk3
 have B13 := hk3.blk (by simp) HB1V.out
 have BG3 := hk3.blk (by simp) HBg.out
 have ⟨L13, C13, F13⟩ := B13
 have ⟨LG3, CG3, FG3⟩ := BG3
 have T3 := Lib.hid (HT.out.kept0 hkw3)
 clear C0V F0V
 go_upto_region 5 with (go_at_call 65; refine (rpairsat_any c x3 _ T3.out hN8 hF8 h3n).mono ?_; rintro e w4 ⟨A4', k4, c4', rfl, hkc4, hp4, hf4, hb4⟩; have HP4 := Lib.hid hp4; have HF4 := Lib.hid hf4; have hk34 : Kept [] w3 w4 := (Kept.refl _ _).call hb4; have ⟨LG4, CG4, FG4⟩ := hk34.blk (by simp) BG3; clear hp4 hf4)
 have hkS4 : Kept [g] w4 (w4.setCell ⟨g, 1, none⟩ (.slice A4' k4 c4')) := (Kept.refl [g] w4).set g 1 _ (.inl (by simp))
 refine wp_named (fun Z => Kept [g] w4 Z ∧ Blk Z g [.int .i64 f, .slice A4' k4 c4', .slice none 0 0]) ⟨hkS4, (hk34.blk (by simp) BG3).set 1 _⟩ ?_
 rintro Z ⟨hkZ, BGZ⟩
 have hk3Z : Kept [g] w3 Z := (keptWide hk34 (by simp)).next hkZ (fun y hy => .inl hy)
 have hkwZ : Kept [] w Z := kept_fresh hkw3 hk3Z (by simp; have := hkW.size; omega)
 have B1Z := hk3Z.blk (by simpa using hb1g) B13
 have ⟨L1Z, C1Z, F1Z⟩ := B1Z
 have ⟨LGZ, CGZ, FGZ⟩ := BGZ
 have TZ := Lib.hid (HT.out.kept0 hkwZ)
 have g4 : ∀ a, A4' = some a → a.block ∉ [g] := fun a ha hm => by have h8 := (HF4.out a ha).1; have h9 := LG3; rw [List.mem_singleton] at hm; omega
 have HPZ := Lib.hid (prs_keptT HP4.out hkZ g4)
 have HFZ : Hid (∀ a, A4' = some a → w.heap.size ≤ a.block ∧ Tag Z a.block 72) := Lib.hid (fun a ha => ⟨by have h8 := (HF4.out a ha).1; have h9 := hkw3.size; omega, (HF4.out a ha).2.same (hkZ.block _ (HF4.out a ha).2.lt (g4 a ha))⟩)
 clear C13 F13 CG3 FG3 CG4 FG4 hkS4 g4
 go_upto_region 7 with (go_at_call 65; refine (rpairsat_any c x4 _ TZ.out hN8 hF8 h4n).mono ?_; rintro e w5 ⟨A5', k5, c5', rfl, hkc5, hp5, hf5, hb5⟩; have HP5 := Lib.hid hp5; have HF5 := Lib.hid hf5; have hk5 : Kept [] Z w5 := (Kept.refl _ _).call hb5; have ⟨LG5, CG5, FG5⟩ := hk5.blk (by simp) BGZ; clear hp5 hf5)
 have hkS5 : Kept [g] w5 (w5.setCell ⟨g, 2, none⟩ (.slice A5' k5 c5')) := (Kept.refl [g] w5).set g 2 _ (.inl (by simp))
 refine wp_named (fun U => Kept [g] w5 U ∧ Blk U g [.int .i64 f, .slice A4' k4 c4', .slice A5' k5 c5']) ⟨hkS5, (hk5.blk (by simp) BGZ).set 2 _⟩ ?_
 rintro U ⟨hkU, BGU⟩
 have hkZU : Kept [g] Z U := (keptWide hk5 (by simp)).next hkU (fun y hy => .inl hy)
 have hkwU : Kept [] w U := kept_fresh hkwZ hkZU (by simp; have := hkW.size; omega)
 have B2U := hkZU.blk (by simpa using hb2g) (hk3Z.blk (by simpa using hb2g) (hk3.blk (by simp) HB2V.out))
 have ⟨L2U, C2U, F2U⟩ := B2U
 have ⟨LGU, CGU, FGU⟩ := BGU
 have gu4 : ∀ a, A4' = some a → a.block ∉ [g] := fun a ha hm => by have h8 := (HF4.out a ha).1; have h9 := LG3; rw [List.mem_singleton] at hm; omega
 have gu5 : ∀ a, A5' = some a → a.block ∉ [g] := fun a ha hm => by have h8 := (HF5.out a ha).1; have h9 := LGZ; rw [List.mem_singleton] at hm; omega
 have HPU4 := Lib.hid (prs_keptT HPZ.out hkZU gu4)
 have HPU5 := Lib.hid (prs_keptT HP5.out hkU gu5)
 have HFU4 : Hid (∀ a, A4' = some a → w.heap.size ≤ a.block ∧ Tag U a.block 72) := Lib.hid (fun a ha => ⟨(HFZ.out a ha).1, (HFZ.out a ha).2.same (hkZU.block _ (HFZ.out a ha).2.lt (gu4 a ha))⟩)
 have HFU5 : Hid (∀ a, A5' = some a → w.heap.size ≤ a.block ∧ Tag U a.block 72) := Lib.hid (fun a ha => ⟨by have h8 := (HF5.out a ha).1; have h9 := hkwZ.size; omega, (HF5.out a ha).2.same (hkU.block _ (HF5.out a ha).2.lt (gu5 a ha))⟩)
 have hgu4 : ∀ a, A4' = some a → a.block ∉ [b2] := fun a ha hm => by have h8 := (HF4.out a ha).1; have h9 := hk3.size; have h7 := HB2V.out.1; rw [List.mem_singleton] at hm; omega
 have hgu5 : ∀ a, A5' = some a → a.block ∉ [b2] := fun a ha hm => by have h8 := (HF5.out a ha).1; have h9 := hk3Z.size; have h6 := hk3.size; have h7 := HB2V.out.1; rw [List.mem_singleton] at hm; omega
 clear C1Z F1Z CGZ FGZ CG5 FG5 hkS5
 go_wp2_with fail
 refine retNamedT (fun Y => Blk Y b2 [.int .i64 f, .slice A4' k4 c4', .slice A5' k5 c5'] ∧ Kept [b2] U Y) ⟨((B2U.set 0 _).set 1 _).set 2 _, (((Kept.refl [b2] U).set b2 0 _ (.inl (by simp))).set b2 1 _ (.inl (by simp))).set b2 2 _ (.inl (by simp))⟩ ?_
 rintro Y ⟨BY, hkY⟩
 have ⟨LY, CY, FY⟩ := BY
 refine bodyPost_ret (by simp [results, Tryz.results59, go_sem, CY]; try rfl) rfl ?_
 exact ⟨A4', k4, c4', A5', k5, c5', rfl, prs_keptT HPU4.out hkY hgu4, prs_keptT HPU5.out hkY hgu5, fun a ha => ⟨(HFU4.out a ha).1, (HFU4.out a ha).2.same (hkY.block _ (HFU4.out a ha).2.lt (hgu4 a ha))⟩, fun a ha => ⟨(HFU5.out a ha).1, (HFU5.out a ha).2.same (hkY.block _ (HFU5.out a ha).2.lt (hgu5 a ha))⟩, (kept_fresh hkwU hkY (by simpa using G2)).toBelow⟩
end Go.Proofs.YtooejoajojanjaaGreatDoor
namespace Go.Df
open Go
section
variable {P : Program} {Q : Exit → Act → World → Prop} {md : Region.Mode} {S : World → Prop} {n : Nat}
theorem WE_two {l : List Oper} (i j : Nat) {o o' : Oper} {post post' : List Oper} {fuel : Nat} {listed : Array Bool} {a : Act} {w : World} (hd : l.drop i = o :: post) (hd' : l.drop j = o' :: post')
   (hr : (decide (Region.ready md l.toArray listed = [i, j]) && decide (i < n) && decide (j < n)) = true)
   (h : ∀ K' : Act → World → Prop, Shut (∀ a w, S w → (S w → WE P md l.toArray n Q S fuel (listed.setIfInBounds i true) a w) → K' a w) → if Region.wanted o (yielded l.toArray a.tmps) = true then Oper.wp P o a w K' Q else K' (a.put o.dst undef) w)
   (h' : ∀ K' : Act → World → Prop, Shut (∀ a w, S w → (S w → WE P md l.toArray n Q S fuel (listed.setIfInBounds j true) a w) → K' a w) → if Region.wanted o' (yielded l.toArray a.tmps) = true then Oper.wp P o' a w K' Q else K' (a.put o'.dst undef) w) :
   WE P md l.toArray n Q S (fuel + 1) listed a w := fun inv => by
 simp only [Bool.and_eq_true, decide_eq_true_eq] at hr
 obtain ⟨⟨hr, hin⟩, hjn⟩ := hr
 refine ⟨fun h0 => (by rw [hr] at h0; cases h0), fun k hk => ?_⟩
 have hk2 : k = i ∨ k = j := by rw [hr] at hk; simpa using hk
 rcases hk2 with rfl | rfl
 · exact wpOp_step (get_drop hd) (fun K' hK => h K' (fun a w hS hW => hK a w ⟨fun _ => hS, hW hS (inv.set hk hin)⟩))
 · exact wpOp_step (get_drop hd') (fun K' hK => h' K' (fun a w hS hW => hK a w ⟨fun _ => hS, hW hS (inv.set hk hjn)⟩))
end
end Go.Df
