/- Texts: Kf Kdz Kvz Kbz. -/
import Derived.Test.YtincpmdldpakkaaGreatDoorRc07
import Derived.Test.YtincpmdldpakkaaGreatDoorRc04
import Derived.Test.YtincpmdldpakkaaGreatDoorRc35
import Derived.Test.YtincpmdldpakkaaGreatDoorRc05
import Derived.Test.YtincpmdldpakkaaGreatDoorRc38
import Derived.Test.YtincpmdldpakkaaGreatDoorRc39
import Derived.Test.YtincpmdldpakkaaGreatDoorRc34
namespace Go.Df
open Go.RowKit
end Go.Df
namespace Go.Proofs.YtincpmdldpakkaaGreatDoor
open Go.RowKit Go.Df Go.Df.If
attribute [local go_sem ↓] Go.wp_at_zero Go.wp_at_succ
set_option maxHeartbeats 1000000 in
theorem rpbefore_any (a b c d : Int) (w : World) :
   Calls Tryz.prog 147 #[.agg #[.int .i64 a, .int .i64 b], .agg #[.int .i64 c, .int .i64 d]] w fun e w' => e = .returned (.bool (lessR ⟨a, b⟩ ⟨c, d⟩)) ∧ Below w.heap.size w w' := by
 go_enter Tryz.func147, Tryz.ntmps147
 go_wp2
 all_goals (go_ret; refine ⟨ret_bool ?_, by go_grown⟩; unfold lessR; simp_all; try omega)
set_option maxHeartbeats 1000000 in
theorem rsbefore_any (a b c d : Int) (w : World) :
   Calls Tryz.prog 94 #[.agg #[.int .i64 a, .int .i64 b], .agg #[.int .i64 c, .int .i64 d]] w fun e w' => e = .returned (.bool (lessD ⟨a, b⟩ ⟨c, d⟩)) ∧ Below w.heap.size w w' := by
 go_enter Tryz.func94, Tryz.ntmps94
 go_wp2
 all_goals (go_ret; refine ⟨ret_bool ?_, by go_grown⟩; unfold lessD; simp_all; try omega)
set_option maxHeartbeats 1000000 in
theorem rfits_any (a b F : Int) (w : World) :
   Calls Tryz.prog 146 #[.agg #[.int .i64 a, .int .i64 b], .int .i64 F] w fun e w' => e = .returned (.bool (decide (¬ (a < 0 ∨ F ≤ a ∨ b < 0 ∨ F ≤ b)))) ∧ Below w.heap.size w w' := by
 go_enter Tryz.func146, Tryz.ntmps146
 go_wp2
 all_goals (go_ret; refine ⟨ret_bool ?_, by go_grown⟩; (first | (simp_all; done) | (simp_all; omega) | (rw [eq_comm, decide_eq_true_eq]; omega) | (rw [eq_comm, decide_eq_false_iff_not]; omega)))
set_option maxRecDepth 100000 in
set_option maxHeartbeats 8000000 in
theorem rfcheck_any (A : Option Addr) (n c : Nat) (F : Int) (l : List Pr) (w : World) (hp : Prs w A n l) :
   Calls Tryz.prog 93 #[.slice A n c, .int .i64 F] w fun e w' => e = .returned (.int .i64 (flErr F l)) ∧ Below w.heap.size w w' := by
 have HP := Lib.hid hp
 have HL := Lib.hid hp.1
 clear hp
 by_cases f0 : F < 1
 · have z : decide (F < 1) = true := by simpa using f0
   have hE : Hid (flErr F l = 4) := by show _ = _; unfold flErr; rw [if_pos (by omega)]
   go_enter Tryz.func93, Tryz.ntmps93
   go_wp2_with fail
   go_ret
   exact ⟨ret_int hE.out.symm, Below.refl _ _⟩
 have zf0 : decide (F < 1) = false := by simpa using f0
 by_cases f1 : 1024 < F
 · have z : decide (1024 < F) = true := by simpa using f1
   have hE : Hid (flErr F l = 4) := by show _ = _; unfold flErr; rw [if_pos (by omega)]
   go_enter Tryz.func93, Tryz.ntmps93
   go_wp2_with fail
   go_ret
   exact ⟨ret_int hE.out.symm, Below.refl _ _⟩
 have zf1 : decide (1024 < F) = false := by simpa using f1
 by_cases t1 : 8192 < n
 · have d1 : decide ((8192 : Int) < n) = true := by simp; omega
   have hE : Hid (flErr F l = 3) := by show _ = _; unfold flErr; rw [if_neg (by omega), HL.out, if_pos (by omega)]
   go_enter Tryz.func93, Tryz.ntmps93
   go_wp2_with fail
   go_ret
   exact ⟨ret_int hE.out.symm, Below.refl _ _⟩
 have d1 : decide ((8192 : Int) < n) = false := by simp; omega
 have HF1 : Hid (1 ≤ F) := by show _ ≤ _; omega
 have HF2 : Hid (F ≤ 1024) := by show _ ≤ _; omega
 have h8 : Hid (l.length ≤ 8192) := by show _ ≤ _; rw [HL.out]; omega
 have hn8 : n ≤ 8192 := by omega
 clear f0 f1 t1
 go_enter Tryz.func93, Tryz.ntmps93
 go_wp2_with fail
 go_loopw [5, 6] (fun z i wr => ∃ j : Nat, j ≤ n ∧ i = .int .i64 j ∧ z = .bool (decide (∃ x, x < j ∧ gp l x = ⟨0, 0⟩)) ∧ Kept [] w wr ∧ Hid (∀ x, x < j → prErr F l x = 0)) (fun _ i _ => n - (intOf i).toNat)
 case atStart => exact ⟨0, Nat.zero_le _, rfl, congrArg Value.bool (by simp), Kept.refl _ _, Lib.hid (fun j hj => absurd hj (by omega))⟩
 case round =>
   obtain ⟨j, hj, rfl, rfl, hkr, hno⟩ := hrel
   obtain ⟨zz, hzz⟩ : ∃ zz, decide (∃ x, x < j ∧ gp l x = (⟨0, 0⟩ : Pr)) = zz := ⟨_, rfl⟩
   rw [hzz]
   have HZZ := Lib.hid hzz
   clear hzz
   have hBr := hkr.toBelow
   by_cases hlt : j < n
   · obtain ⟨b, o, rfl, hl, hc⟩ := (HP.out.later hBr).2 (by omega)
     obtain ⟨h1, h2⟩ := hc j hlt
     have HC := Lib.hid hc
     have LB := Lib.hid hl
     clear hc
     obtain ⟨xi, xo, en⟩ : ∃ xi xo, gp l j = ⟨xi, xo⟩ := ⟨_, _, rfl⟩
     rw [en] at h1 h2
     have HE := Lib.hid en
     clear en
     have hj9 : (j : Int) < (n : Int) := by omega
     have hbad : Hid (∀ e, prErr F l j = e → e ≠ 0 → flErr F l = e) := fun e h1 h2 => fl_hit HF1.out HF2.out h8.out hno.out (by rw [HL.out]; exact hlt) h1 h2
     have hstep : Hid (prErr F l j = 0 → ∀ x, x < j + 1 → prErr F l x = 0) := fun h0 x hx => by
       rcases Nat.lt_or_ge x j with h9 | h9
       · exact hno.out x h9
       · obtain rfl : x = j := by omega
         exact h0
     have HEr : Hid (prErr F l j = if xi < 0 ∨ F ≤ xi ∨ xo < 0 ∨ F ≤ xo then 4 else if 0 < j ∧ lessR (gp l (j - 1)) ⟨xi, xo⟩ = false then 13 else 0) := by
       show _ = _
       unfold prErr
       rw [HE.out]
     go_wp2_with fail
     refine (rfits_any xi xo F _).mono ?_
     rintro e w3 ⟨rfl, hb3⟩
     have hk3 : Kept [] wr w3 := (Kept.refl _ _).call hb3
     have hkw3 : Kept [] w w3 := hkr.call hb3
     by_cases r0 : xi < 0 ∨ F ≤ xi ∨ xo < 0 ∨ F ≤ xo
     · rw [decide_eq_false (not_not_intro r0)]
       have hE := Lib.hid (hbad.out 4 (by rw [HEr.out, if_pos r0]) (by omega))
       clear r0
       go_wp2_with fail
       go_ret
       exact ⟨ret_int hE.out.symm, hkw3.toBelow⟩
     rw [decide_eq_true r0]
     have HEy : Hid (prErr F l j = if 0 < j ∧ lessR (gp l (j - 1)) ⟨xi, xo⟩ = false then 13 else 0) := by
       show _ = _
       rw [HEr.out, if_neg r0]
     clear HEr r0
     replace h1 := (hk3.cell b _ LB.out (by simp)).trans h1
     replace h2 := (hk3.cell b _ LB.out (by simp)).trans h2
     have hb3' : b < w3.heap.size := Nat.lt_of_lt_of_le LB.out hk3.size
     have HNZ : Hid ((zz || (decide (xi = 0) && decide (xo = 0))) = decide (∃ x, x < j + 1 ∧ gp l x = (⟨0, 0⟩ : Pr))) := by
       show _ = _
       rw [← HZZ.out, Bool.eq_iff_iff]
       simp
       constructor
       · rintro (⟨x, h1, h2⟩ | ⟨h1, h2⟩)
         · exact ⟨x, by omega, h2⟩
         · exact ⟨j, by omega, by rw [HE.out, h1, h2]⟩
       · rintro ⟨x, h1, h2⟩
         rcases Nat.lt_or_ge x j with h3 | h3
         · exact .inl ⟨x, h3, h2⟩
         · have hxj : x = j := by omega
           rw [hxj, HE.out] at h2
           exact .inr (by simpa using h2)
     by_cases hj0 : j = 0
     · have y1 : decide (0 < j) = false := by simp; omega
       have y2 : decide ((0 : Int) < (j : Int)) = false := by simp; omega
       have hfin := Lib.hid (hstep.out (by rw [HEy.out, if_neg (by omega)]))
       clear hj0
       go_upto_region 11 with fail
       go_quiet (fail)
       by_cases exi : xi = 0
       case neg =>
         have fxi : (xi == 0) = false := by simpa using exi
         have HN2 : Hid (decide (∃ x, x < j + 1 ∧ gp l x = (⟨0, 0⟩ : Pr)) = zz) := by show _ = _; rw [← HNZ.out, decide_eq_false exi]; simp
         clear exi
         cases zz <;> (go_wp2_with fail; exact ⟨⟨j + 1, by omega, by go_num, by rw [HN2.out], hkw3.drewN _, hfin⟩, by simp [intOf]; omega⟩)
       have fxi : (xi == 0) = true := by simpa using exi
       by_cases exo : xo = 0
       · have fxo : (xo == 0) = true := by simpa using exo
         have HN2 : Hid (decide (∃ x, x < j + 1 ∧ gp l x = (⟨0, 0⟩ : Pr)) = true) := by show _ = _; rw [← HNZ.out, decide_eq_true exi, decide_eq_true exo]; simp
         clear exo exi
         cases zz <;> (go_wp2_with fail; exact ⟨⟨j + 1, by omega, by go_num, by rw [HN2.out], hkw3.drewN _, hfin⟩, by simp [intOf]; omega⟩)
       · have fxo : (xo == 0) = false := by simpa using exo
         have HN2 : Hid (decide (∃ x, x < j + 1 ∧ gp l x = (⟨0, 0⟩ : Pr)) = zz) := by show _ = _; rw [← HNZ.out, decide_eq_false exo]; simp
         clear exo exi
         cases zz <;> (go_wp2_with fail; exact ⟨⟨j + 1, by omega, by go_num, by rw [HN2.out], hkw3.drewN _, hfin⟩, by simp [intOf]; omega⟩)
     have y1 : decide (0 < j) = true := by simp; omega
     have y2 : decide ((0 : Int) < (j : Int)) = true := by simp; omega
     have y3 : IntKind.i64.wrap ((j : Int) - 1) = (j : Int) - 1 := IntWalk.i64_in _ (by omega)
     have y4 : (0 : Int) ≤ (j : Int) - 1 := by omega
     have y5 : ((j : Int) - 1).toNat = j - 1 := by omega
     have y6 : (j : Int) - 1 < (n : Int) := by omega
     have y7 : 0 < j := by omega
     have y8 : 1 ≤ j := by omega
     have y9 : (1 : Int) ≤ (j : Int) := by omega
     have y10 : j ≤ n := by omega
     have y11 : j < n + 1 := by omega
     have y12 : (j : Int) < (n : Int) + 1 := by omega
     have y13 : (j : Int) ≤ (n : Int) := by omega
     obtain ⟨p1, p2⟩ := HC.out (j - 1) (by omega)
     obtain ⟨pi, po, ep⟩ : ∃ pi po, gp l (j - 1) = ⟨pi, po⟩ := ⟨_, _, rfl⟩
     rw [ep] at p1 p2
     have q1 : w3.cell? ⟨b, o + (j - 1) * 2, none⟩ = some (.int .i64 pi) := (hk3.cell b _ LB.out (by simp)).trans p1
     have q2 : w3.cell? ⟨b, o + (j - 1) * 2 + 1, none⟩ = some (.int .i64 po) := (hk3.cell b _ LB.out (by simp)).trans p2
     have HEx : Hid (prErr F l j = if lessR ⟨pi, po⟩ ⟨xi, xo⟩ = false then 13 else 0) := by
       show _ = _
       rw [HEy.out, ep]
       simp [y7]
     clear p1 p2 ep hj0
     go_upto_region 11 with fail
     go_cut [43] (fun s wx => s = .bool (!lessR ⟨pi, po⟩ ⟨xi, xo⟩) ∧ Kept [] w3 wx)
     case first =>
       go_region_held3 (fun w' => SX0 w3 w') (exact kp0)
         (first | (go_at_call 147; refine (rpbefore_any pi po xi xo _).mono ?_; rintro e w4 ⟨rfl, hb4⟩; obtain ⟨hc4, hf4, hg4⟩ := bcell hb4; have hz4 := hb4.size; try simp at hz4))
       all_goals
         go_wp2_with fail
         go_meet
         refine ⟨rfl, ?_⟩
         (exact kpt0)
     case rest =>
       obtain ⟨rfl, hkc⟩ := hcut
       have hkwc : Kept [] w wc := keptTrans hkw3 hkc
       replace h1 := (hkc.cell b _ hb3' (by simp)).trans h1
       replace h2 := (hkc.cell b _ hb3' (by simp)).trans h2
       have hbc : b < wc.heap.size := Nat.lt_of_lt_of_le hb3' hkc.size
       clear q1 q2
       by_cases hles : lessR ⟨pi, po⟩ ⟨xi, xo⟩ = true
       · rw [hles]
         have hfin := Lib.hid (hstep.out (by rw [HEx.out, hles, if_neg (by simp)]))
         clear hles
         by_cases exi : xi = 0
         case neg =>
           have fxi : (xi == 0) = false := by simpa using exi
           have HN2 : Hid (decide (∃ x, x < j + 1 ∧ gp l x = (⟨0, 0⟩ : Pr)) = zz) := by show _ = _; rw [← HNZ.out, decide_eq_false exi]; simp
           clear exi
           cases zz <;> (go_wp2_with fail; exact ⟨⟨j + 1, by omega, by go_num, by rw [HN2.out], hkwc, hfin⟩, by simp [intOf]; omega⟩)
         have fxi : (xi == 0) = true := by simpa using exi
         by_cases exo : xo = 0
         · have fxo : (xo == 0) = true := by simpa using exo
           have HN2 : Hid (decide (∃ x, x < j + 1 ∧ gp l x = (⟨0, 0⟩ : Pr)) = true) := by show _ = _; rw [← HNZ.out, decide_eq_true exi, decide_eq_true exo]; simp
           clear exo exi
           cases zz <;> (go_wp2_with fail; exact ⟨⟨j + 1, by omega, by go_num, by rw [HN2.out], hkwc, hfin⟩, by simp [intOf]; omega⟩)
         · have fxo : (xo == 0) = false := by simpa using exo
           have HN2 : Hid (decide (∃ x, x < j + 1 ∧ gp l x = (⟨0, 0⟩ : Pr)) = zz) := by show _ = _; rw [← HNZ.out, decide_eq_false exo]; simp
           clear exo exi
           cases zz <;> (go_wp2_with fail; exact ⟨⟨j + 1, by omega, by go_num, by rw [HN2.out], hkwc, hfin⟩, by simp [intOf]; omega⟩)
       · rw [Bool.not_eq_true] at hles
         rw [hles]
         have hE := Lib.hid (hbad.out 13 (by rw [HEx.out, hles, if_pos rfl]) (by omega))
         clear hles
         go_wp2_with fail
         go_ret
         exact ⟨ret_int hE.out.symm, hkwc.toBelow⟩
   · obtain rfl : j = n := by omega
     have hall : Hid (∀ x, x < l.length → prErr F l x = 0) := fun x hx => hno.out x (by rw [HL.out] at hx; exact hx)
     have HZ := Lib.hid (fl_end HF1.out HF2.out h8.out hall.out)
     clear hno hlt
     cases zz with
     | true =>
       have hE : Hid (flErr F l = 0) := by
         show _ = _
         have h1 := of_decide_eq_true HZZ.out
         obtain ⟨x, hx, h2⟩ := h1
         rw [HZ.out, if_neg]
         rintro (h3 | h3)
         · rw [HL.out] at h3; omega
         · exact h3 (pr_first hall.out (by rw [HL.out]; exact hx) h2)
       go_wp2_with fail
       go_ret
       exact ⟨ret_int hE.out.symm, hkr.toBelow⟩
     | false =>
       have hE : Hid (flErr F l = 1) := by
         show _ = _
         have h1 := of_decide_eq_false HZZ.out
         rw [HZ.out, if_pos]
         by_cases h3 : l.length = 0
         · exact .inl h3
         · exact .inr (fun h4 => h1 ⟨0, by rw [HL.out] at h3; omega, h4⟩)
       go_wp2_with fail
       go_ret
       exact ⟨ret_int hE.out.symm, hkr.toBelow⟩
theorem rfcheck_is (A : Option Addr) (n c : Nat) (F : Int) (l : List Pr) (w : World) (hp : Prs w A n l) (pe : Int) (hpe : flErr F l = pe) :
  Calls Tryz.prog 93 #[.slice A n c, .int .i64 F] w fun e w' => e = .returned (.int .i64 pe) ∧ Below w.heap.size w w' := by
 rw [← hpe]
 exact rfcheck_any A n c F l w hp
set_option maxRecDepth 100000 in
set_option maxHeartbeats 8000000 in
theorem rifdsck_any (A1 A2 A3 A4 : Option Addr) (n1 c1 n2 c2 n3 c3 n4 c4 : Nat) (mn F : Int) (ns : List Sp.Nd) (es : List Sp.Ed) (ls : List (List Pr)) (sd : List Sd) (w : World) (hn : Nds w A1 n1 ns) (he : Eds w A2 n2 es) (hf : Flw w A3 n3 ls) (hsd : Sds w A4 n4 sd) (h4 : n4 ≤ 9223372036854775807) (hwn : ∀ j, j < n1 → (Lit.int .i64 (gn ns j).f).wf = true) (hwe : ∀ j, j < n2 → (Lit.int .i64 (ge es j).a).wf = true ∧ (Lit.int .i64 (ge es j).b).wf = true) :
   Calls Tryz.prog 48 #[.agg #[.slice A1 n1 c1, .slice A2 n2 c2, .int .i64 mn, .int .i64 F, .slice A3 n3 c3, .slice A4 n4 c4]] w fun e w' => e = .returned (.int .i64 (pbErr ⟨ns, es, mn, F, ls, sd⟩)) ∧ Below w.heap.size w w' := by
 obtain ⟨pe0, hpe0⟩ : ∃ x, pbErr ⟨ns, es, mn, F, ls, sd⟩ = x := ⟨_, rfl⟩
 rw [hpe0]
 have HPB := Lib.hid hpe0
 clear hpe0
 have HN := Lib.hid hn
 have HE := Lib.hid he
 have HF := Lib.hid hf
 have HS := Lib.hid hsd
 have HL1 := Lib.hid hn.1
 have HL2 := Lib.hid he.1
 have HL3 := Lib.hid hf.1
 have HL4 := Lib.hid hsd.1
 have HWN := Lib.hid hwn
 have HWE := Lib.hid hwe
 clear hn he hf hsd hwn hwe
 go_enter Tryz.func48, Tryz.ntmps48
 go_upto_region 1 with fail
 refine wp_named (fun W => ∃ b0, w.heap.size = b0 ∧ Blk W b0 [.slice A1 n1 c1, .slice A2 n2 c2, .int .i64 mn, .int .i64 F, .slice A3 n3 c3, .slice A4 n4 c4] ∧ Below w.heap.size w W) ⟨_, rfl, ?_, ?_⟩ ?_
 · exact kbn
 · go_grown
 rintro W ⟨b0, e0, B0, hB⟩
 rw [e0]
 have G0 : w.heap.size ≤ b0 := by omega
 clear e0
 have ⟨L0, C0, F0⟩ := B0
 go_wp2_with fail
 refine (rsuper_any _ _ _ _ _ _ _ ns es _ (HN.out.later hB) (HE.out.later hB)).mono ?_
 rintro e w1 ⟨rfl, hb1⟩
 have hk1 : Kept [] W w1 := (Kept.refl _ _).call hb1
 have hB1 := hk1.below hB hB.size (by simp)
 have ⟨L1, C1, F1⟩ := hk1.blk (by simp) B0
 clear C0 F0
 obtain ⟨se, hse⟩ : ∃ x, Sp.superErr ns es mn = x := ⟨_, rfl⟩
 rw [hse]
 have HSE := Lib.hid hse
 clear hse
 by_cases h0 : se = 0
 case neg =>
   have h0' : (se != 0) = true := by simpa using h0
   have hE : Hid (pe0 = se) := by show _ = _; rw [← HPB.out]; unfold pbErr; rw [HSE.out, if_pos h0]
   clear h0
   go_wp2_with fail
   go_ret
   exact ⟨ret_int hE.out.symm, hB1⟩
 subst h0
 by_cases f1 : F < 1
 · have z : decide (F < 1) = true := by simpa using f1
   have hE : Hid (pe0 = 4) := by show _ = _; rw [← HPB.out]; unfold pbErr; rw [HSE.out, if_neg (by simp), if_pos (show F < 1 ∨ 1024 < F by omega)]
   go_wp2_with fail
   go_ret
   exact ⟨ret_int hE.out.symm, hB1⟩
 have z1 : decide (F < 1) = false := by simpa using f1
 by_cases f2 : 1024 < F
 · have z : decide (1024 < F) = true := by simpa using f2
   have hE : Hid (pe0 = 4) := by show _ = _; rw [← HPB.out]; unfold pbErr; rw [HSE.out, if_neg (by simp), if_pos (show F < 1 ∨ 1024 < F by omega)]
   go_wp2_with fail
   go_ret
   exact ⟨ret_int hE.out.symm, hB1⟩
 have z2 : decide (1024 < F) = false := by simpa using f2
 have HFF : Hid (¬ (F < 1 ∨ 1024 < F)) := by show ¬ _; omega
 by_cases f3 : n3 = n2
 case neg =>
   have y1 : ((n3 : Int) != (n2 : Int)) = true := by simp; omega
   have y2 : (n3 != n2) = true := by simp; omega
   have hE : Hid (pe0 = 20) := by show _ = _; rw [← HPB.out]; unfold pbErr; rw [HSE.out, if_neg (by simp), if_neg HFF.out, if_pos (by rw [HL3.out, HL2.out]; exact f3)]
   go_wp2_with fail
   go_ret
   exact ⟨ret_int hE.out.symm, hB1⟩
 have y1 : ((n3 : Int) != (n2 : Int)) = false := by simp; omega
 have y2 : (n3 != n2) = false := by simp; omega
 have HLL : Hid (ls.length = es.length) := by show _ = _; rw [HL3.out, HL2.out]; exact f3
 have hn2 : n2 ≤ 32768 := by
   have h1 := HSE.out
   unfold Sp.superErr at h1
   rw [HL1.out, HL2.out] at h1
   split at h1
   · cases h1
   · omega
 subst f3
 clear f1 f2
 go_wp2_with fail
 go_loopw [4] (fun i wr => ∃ j : Nat, j ≤ n3 ∧ i = .int .i64 j ∧ Kept [] W wr ∧ Hid (∀ x, x < j → flErr F (gf ls x) = 0)) (fun i _ => n3 - (intOf i).toNat)
 case atStart => exact ⟨0, Nat.zero_le _, rfl, hk1, Lib.hid (fun j hj => absurd hj (by omega))⟩
 case round =>
   obtain ⟨j, hj, rfl, hkr, hno⟩ := hrel
   have BR := hkr.blk (by simp) B0
   have ⟨LR, CR, FR⟩ := BR
   have hBr := hkr.below hB hB.size (by simp)
   clear C1 F1
   by_cases hlt : j < n3
   · obtain ⟨b, o, rfl, hl, hc⟩ := (HF.out.later hBr).2 (by omega)
     obtain ⟨Ai, ni, ci, h1, -, hx⟩ := hc j hlt
     have HX := Lib.hid hx
     clear hc hx
     have hbad : Hid (∀ e, flErr F (gf ls j) = e → e ≠ 0 → pe0 = e) := fun e h1 h2 => HPB.out.symm.trans (pb_flow (p := ⟨ns, es, mn, F, ls, sd⟩) HSE.out HFF.out HLL.out hno.out (by show _ < ls.length; rw [HL3.out]; exact hlt) h1 h2)
     have hstep : Hid (flErr F (gf ls j) = 0 → ∀ x, x < j + 1 → flErr F (gf ls x) = 0) := fun h0 x hx => by
       rcases Nat.lt_or_ge x j with h9 | h9
       · exact hno.out x h9
       · obtain rfl : x = j := by omega
         exact h0
     obtain ⟨pe, hpe⟩ : ∃ x, flErr F (gf ls j) = x := ⟨_, rfl⟩
     have HPE := Lib.hid hpe
     clear hpe
     have x3 : (j : Int) < (n3 : Int) := by omega
     go_upto_region 11 with fail
     go_cut [5] (fun s wx => s = .int .i64 pe ∧ Kept [] wr wx)
     case first =>
       go_region_held3 (fun w' => SX0 wr w') (exact kp0)
         (first | (go_at_call 93; ((with_reducible refine (rfcheck_is _ _ _ F (gf ls j) _ (HX.out.later (Kept.toBelow (by (exact kpt0)))) pe HPE.out).mono ?_)); rintro e w3 ⟨rfl, hb3⟩; obtain ⟨hc3, hf3, hg3⟩ := bcell hb3; have hz3 := hb3.size; try simp at hz3))
       all_goals
         go_wp2_with fail
         go_meet
         refine ⟨rfl, ?_⟩
         (exact kpt0)
     case rest =>
     obtain ⟨rfl, hkc⟩ := hcut
     rename World => w5
     clear CR FR h1
     have hk5 : Kept [] W w5 := keptTrans hkr hkc
     have hB5 := hk5.below hB hB.size (by simp)
     by_cases hx0 : pe = 0
     · have hx0' : (pe != 0) = false := by simpa using hx0
       have hfin := Lib.hid (hstep.out (HPE.out.trans hx0))
       clear hx0
       go_wp2_with fail
       exact ⟨⟨j + 1, by omega, by go_num, hk5, hfin⟩, by simp [intOf]; omega⟩
     · have hx0' : (pe != 0) = true := by simpa using hx0
       have hE := Lib.hid (hbad.out pe HPE.out hx0)
       clear hx0
       go_wp2_with fail
       go_ret
       exact ⟨ret_int hE.out.symm, hB5⟩
   · obtain rfl : j = n3 := by omega
     have hall : Hid (∀ x, x < ls.length → flErr F (gf ls x) = 0) := fun x hx => hno.out x (by rw [HL3.out] at hx; exact hx)
     have HN3 : Hid (es.length = j) := Lib.hid HL2.out
     clear hno hlt hj
     go_wp2_with fail
     go_loopw [6] (fun i wz => ∃ q : Nat, q ≤ n4 ∧ i = .int .i64 q ∧ Kept [] W wz ∧ Hid (∀ x, x < q → sdErr n1 F sd x = 0)) (fun i _ => n4 - (intOf i).toNat)
     case atStart => exact ⟨0, Nat.zero_le _, rfl, hkr, Lib.hid (fun j hj => absurd hj (by omega))⟩
     case round =>
       rename World => wz
       obtain ⟨q, hq, rfl, hkz, hno⟩ := hrel
       have BZ := hkz.blk (by simp) B0
       have ⟨LZ, CZ, FZ⟩ := BZ
       have hBz := hkz.below hB hB.size (by simp)
       clear CR FR
       by_cases hlt : q < n4
       case neg =>
         obtain rfl : q = n4 := by omega
         have hE : Hid (pe0 = 0) := Lib.hid (HPB.out.symm.trans (pb_ok (p := ⟨ns, es, mn, F, ls, sd⟩) HSE.out HFF.out HLL.out hall.out (fun x hx => by show sdErr ns.length F sd x = 0; rw [HL1.out]; exact hno.out x (by rw [← HL4.out]; exact hx))))
         go_wp2_with fail
         go_ret
         exact ⟨ret_int hE.out.symm, hBz⟩
       obtain ⟨b, o, rfl, hl, hc⟩ := (HS.out.later hBz).2 (by omega)
       obtain ⟨h1, h2⟩ := hc q hlt
       have HC := Lib.hid hc
       have LB := Lib.hid hl
       clear hc
       obtain ⟨sn, sf, en⟩ : ∃ sn sf, gd sd q = ⟨sn, sf⟩ := ⟨_, _, rfl⟩
       rw [en] at h1 h2
       have HEe := Lib.hid en
       clear en
       go_upto_region 18 with fail
       refine wp_named (fun V => ∃ g, wz.heap.size = g ∧ Blk V g [.int .i64 sn, .int .i64 sf] ∧ Kept [] wz V) ⟨_, rfl, Blk.new _ _ _ _ rfl, (Kept.refl _ _).alloc _⟩ ?_
       rintro V ⟨g, eg, Bg, hkV⟩
       rw [eg]
       have hkw : Kept [] W V := keptTrans hkz hkV
       have ⟨LG, CG, FG⟩ := Bg
       have BV := hkw.blk (by simp) B0
       have ⟨LV, CV, FV⟩ := BV
       have hBV := hkw.below hB hB.size (by simp)
       clear CZ FZ h1 h2 eg
       have hbad : Hid (∀ e, sdErr n1 F sd q = e → e ≠ 0 → pe0 = e) := fun e h1 h2 => HPB.out.symm.trans (pb_seed (p := ⟨ns, es, mn, F, ls, sd⟩) HSE.out HFF.out HLL.out hall.out (j := q) (fun x hx => by show sdErr ns.length F sd x = 0; rw [HL1.out]; exact hno.out x hx) (by show _ < sd.length; rw [HL4.out]; exact hlt) (by show sdErr ns.length F sd q = e; rw [HL1.out]; exact h1) h2)
       have hstep : Hid (sdErr n1 F sd q = 0 → ∀ x, x < q + 1 → sdErr n1 F sd x = 0) := fun h0 x hx => by
         rcases Nat.lt_or_ge x q with h9 | h9
         · exact hno.out x h9
         · obtain rfl : x = q := by omega
           exact h0
       have HEr : Hid (sdErr n1 F sd q = if sn < 0 ∨ (n1 : Int) ≤ sn ∨ sf < 1 ∨ F ≤ sf then 4 else if 0 < q ∧ lessD (gd sd (q - 1)) ⟨sn, sf⟩ = false then 13 else 0) := by
         show _ = _
         unfold sdErr
         rw [HEe.out]
       by_cases r0 : sn < 0
       · have z : decide (sn < 0) = true := by simpa using r0
         have hE := Lib.hid (hbad.out 4 (by rw [HEr.out, if_pos (by omega)]) (by omega))
         go_wp2_with fail
         go_ret
         exact ⟨ret_int hE.out.symm, hBV⟩
       have r0' : decide (sn < 0) = false := by simpa using r0
       by_cases r1 : (n1 : Int) ≤ sn
       · have z : decide ((n1 : Int) ≤ sn) = true := by simpa using r1
         have hE := Lib.hid (hbad.out 4 (by rw [HEr.out, if_pos (by omega)]) (by omega))
         go_wp2_with fail
         go_ret
         exact ⟨ret_int hE.out.symm, hBV⟩
       have r1' : decide ((n1 : Int) ≤ sn) = false := by simpa using r1
       by_cases r2 : sf < 1
       · have z : decide (sf < 1) = true := by simpa using r2
         have hE := Lib.hid (hbad.out 4 (by rw [HEr.out, if_pos (by omega)]) (by omega))
         go_wp2_with fail
         go_ret
         exact ⟨ret_int hE.out.symm, hBV⟩
       have r2' : decide (sf < 1) = false := by simpa using r2
       by_cases r3 : F ≤ sf
       · have z : decide (F ≤ sf) = true := by simpa using r3
         have hE := Lib.hid (hbad.out 4 (by rw [HEr.out, if_pos (by omega)]) (by omega))
         go_wp2_with fail
         go_ret
         exact ⟨ret_int hE.out.symm, hBV⟩
       have r3' : decide (F ≤ sf) = false := by simpa using r3
       have HEy : Hid (sdErr n1 F sd q = if 0 < q ∧ lessD (gd sd (q - 1)) ⟨sn, sf⟩ = false then 13 else 0) := by
         show _ = _
         rw [HEr.out, if_neg (by omega)]
       clear HEr r0 r1 r2 r3
       by_cases hq0 : q = 0
       · have y3 : decide (0 < q) = false := by simp; omega
         have y4 : decide ((0 : Int) < (q : Int)) = false := by simp; omega
         have hfin := Lib.hid (hstep.out (by rw [HEy.out, if_neg (by omega)]))
         clear hq0
         go_upto_region 20 with fail
         go_quiet (fail)
         go_wp2_with fail
         exact ⟨⟨q + 1, by omega, by go_num, hkw.drewN _, hfin⟩, by simp [intOf]; omega⟩
       have u1 : decide (0 < q) = true := by simp; omega
       have u2 : decide ((0 : Int) < (q : Int)) = true := by simp; omega
       have u3 : IntKind.i64.wrap ((q : Int) - 1) = (q : Int) - 1 := IntWalk.i64_in _ (by omega)
       have u4 : (0 : Int) ≤ (q : Int) - 1 := by omega
       have u5 : ((q : Int) - 1).toNat = q - 1 := by omega
       have u6 : (q : Int) - 1 < (n4 : Int) := by omega
       have u7 : 0 < q := by omega
       have u8 : 1 ≤ q := by omega
       have u9 : (1 : Int) ≤ (q : Int) := by omega
       have u10 : q ≤ n4 := by omega
       have u11 : q < n4 + 1 := by omega
       have u12 : (q : Int) < (n4 : Int) + 1 := by omega
       have u13 : (q : Int) ≤ (n4 : Int) := by omega
       obtain ⟨p1, p2⟩ := HC.out (q - 1) (by omega)
       obtain ⟨pn, pf, ep⟩ : ∃ pn pf, gd sd (q - 1) = ⟨pn, pf⟩ := ⟨_, _, rfl⟩
       rw [ep] at p1 p2
       have q1 := (hkV.cell b _ LB.out (by simp)).trans p1
       have q2 := (hkV.cell b _ LB.out (by simp)).trans p2
       have hb6' : b < V.heap.size := Nat.lt_of_lt_of_le LB.out hkV.size
       have HEx : Hid (sdErr n1 F sd q = if lessD ⟨pn, pf⟩ ⟨sn, sf⟩ = false then 13 else 0) := by
         show _ = _
         rw [HEy.out, ep]
         simp [u7]
       clear p1 p2 ep hq0 HEy
       go_upto_region 20 with fail
       go_cut [96] (fun s wx => s = .bool (!lessD ⟨pn, pf⟩ ⟨sn, sf⟩) ∧ Kept [] V wx)
       case first =>
         go_region_held3 (fun w' => SX0 V w') (exact kp0)
           (first | (go_at_call 94; refine (rsbefore_any pn pf sn sf _).mono ?_; rintro e w3 ⟨rfl, hb3⟩; obtain ⟨hc3, hf3, hg3⟩ := bcell hb3; have hz3 := hb3.size; try simp at hz3))
         all_goals
           go_wp2_with fail
           go_meet
           refine ⟨rfl, ?_⟩
           (exact kpt0)
       case rest =>
         obtain ⟨rfl, hkc⟩ := hcut
         have hkwc : Kept [] W wc := keptTrans hkw hkc
         by_cases hles : lessD ⟨pn, pf⟩ ⟨sn, sf⟩ = true
         · rw [hles]
           have hfin := Lib.hid (hstep.out (by rw [HEx.out, hles, if_neg (by simp)]))
           clear hles
           go_wp2_with fail
           exact ⟨⟨q + 1, by omega, by go_num, hkwc, hfin⟩, by simp [intOf]; omega⟩
         · rw [Bool.not_eq_true] at hles
           rw [hles]
           have hE := Lib.hid (hbad.out 13 (by rw [HEx.out, hles, if_pos rfl]) (by omega))
           clear hles
           go_wp2_with fail
           go_ret
           exact ⟨ret_int hE.out.symm, hkwc.below hB hB.size (by simp)⟩
end Go.Proofs.YtincpmdldpakkaaGreatDoor
namespace Go.Df
open Go.RowKit
namespace If
open Sp
open Classical in
/-- The facts of the solution at a node, ascending. -/
noncomputable def solF (p : Pb) (i : Nat) : List Int := ofNats ((List.range p.F.toNat).filter fun d => d != 0 && decide (∃ a, PE p a i d))
open Classical in
noncomputable def solR (p : Pb) (i : Nat) : Bool := decide (PE p 0 i 0)
open Classical in
theorem solR_eq {p : Pb} {i : Nat} {b : Bool} (h : b = true ↔ PE p 0 i 0) : b = solR p i := by
 unfold solR
 rw [Bool.eq_iff_iff, decide_eq_true_iff]
 exact h
end If
end Go.Df
namespace Go.Df
open Go.RowKit
namespace If
open Classical in
theorem solF_tab {p : Pb} (ho : Ok p) {F : Nat} (hF : p.F.toNat = F) {T : Nat → Nat → Nat → Bool} (h : ∀ n a d, T n a d = true ↔ PE p a n d) (x : Nat) : tabL F T x F = solF p x := by
 unfold tabL solF
 rw [hF]
 congr 1
 refine List.filter_congr fun y _ => ?_
 have e : anyT F T x y = decide (∃ a, PE p a x y) := by
   rw [Bool.eq_iff_iff, decide_eq_true_iff]
   unfold anyT
   rw [List.any_eq_true]
   constructor
   · rintro ⟨a, _, ha⟩
     exact ⟨a, (h _ _ _).1 ha⟩
   · rintro ⟨a, ha⟩
     have h1 := (ha.rng ho).2.1
     exact ⟨a, List.mem_range.2 (by omega), (h _ _ _).2 ha⟩
 rw [e]
end If
end Go.Df
namespace Go.Proofs.YtincpmdldpakkaaGreatDoor
open Go.RowKit Go.Df Go.Df.If
attribute [local go_sem ↓] Go.wp_at_zero Go.wp_at_succ
set_option maxRecDepth 100000 in
set_option maxHeartbeats 4000000 in
theorem rsolve_ok {p : Pb} (A1 A2 A3 A4 : Option Addr) (n1 c1 n2 c2 n3 c3 n4 c4 mN F : Nat) (w : World) (hG : Gr w A1 n1 A2 n2 p.ns p.es) (hP : PbW p n1 F mN A1 A2 A3 A4 n2 n3 n4 w) :
   Calls Tryz.prog 19 #[.agg #[.slice A1 n1 c1, .slice A2 n2 c2, .int .i64 mN, .int .i64 (F : Nat), .slice A3 n3 c3, .slice A4 n4 c4]] w fun e w' => ∃ B1 d1 B2 d2, e = .returned (.tuple #[.agg #[.slice B1 n1 d1, .slice B2 n1 d2], .int .i64 0]) ∧ Bls w' B1 n1 ((List.range n1).map (solR p)) ∧ IntsR w' B2 n1 ((List.range n1).map (solF p)) ∧ Below w.heap.size w w' := by
 have HG := Lib.hid hG
 have HP := Lib.hid hP
 have hn4 := hP.h4
 have hN8 := hP.N8
 have hF8 := hP.F8
 have hF1 := hP.F1
 have HPE : Hid (pbErr ⟨p.ns, p.es, mN, F, p.fl, p.sd⟩ = 0) := Lib.hid (by
   have h9 : pbErr ⟨p.ns, p.es, p.mn, p.F, p.fl, p.sd⟩ = 0 := pb_ok (p := p) hP.ok.sup (by have := hP.ok.f1; have := hP.ok.f2; omega) hP.ok.len (fun x hx => by
     have h1 := hP.ok.fl x hx
     have h2 := fl_end (l := gf p.fl x) hP.ok.f1 hP.ok.f2 h1.1 h1.2.1
     rw [h2, if_neg]
     rintro (h3 | h3)
     · have := h1.2.2.1; omega
     · exact h3 h1.2.2.2) hP.ok.sd
   rw [← hP.hm, ← hP.hF]
   exact h9)
 clear hG hP
 go_enter Tryz.func19, Tryz.ntmps19
 go_upto_region 1 with fail
 refine wp_named (fun W => ∃ b0 b1, w.heap.size = b0 ∧ w.heap.size + 1 = b1 ∧ Blk W b0 [.slice A1 n1 c1, .slice A2 n2 c2, .int .i64 mN, .int .i64 (F : Nat), .slice A3 n3 c3, .slice A4 n4 c4] ∧ Blk W b1 [.slice none 0 0, .slice none 0 0] ∧ Below w.heap.size w W) ⟨_, _, rfl, rfl, ?_, ?_, ?_⟩ ?_
 · exact (Blk.new _ _ _ _ (by first | rfl | simp)).alloc _
 · exact kbn
 · go_grown
 rintro W ⟨b0, b1, e0, e1, B0, B1, hB⟩
 rw [e1, e0]
 have G0 : w.heap.size ≤ b0 := by omega
 have n01 : b0 ≠ b1 := by omega
 have G1 : w.heap.size ≤ b1 := by omega
 have n10 : b1 ≠ b0 := by omega
 clear e0 e1
 have ⟨L0, C0, F0⟩ := B0
 have ⟨L1, C1, F1⟩ := B1
 go_upto_region 2 with (go_at_call 48; refine (rifdsck_any A1 A2 A3 A4 n1 c1 n2 c2 n3 c3 n4 c4 mN F p.ns p.es p.fl p.sd _ (HG.out.nd.later hB) (HG.out.ed.later hB) (HP.out.fl.later hB) (HP.out.sd.later hB) (by omega) HG.out.wn HG.out.we).mono ?_; rw [HPE.out]; rintro e w1 ⟨rfl, hb1⟩)
 have hk1 : Kept [] W w1 := (Kept.refl _ _).call hb1
 have B01 := hk1.blk (by simp) B0
 have B11 := hk1.blk (by simp) B1
 have ⟨L01, C01, F01⟩ := B01
 have ⟨L11, C11, F11⟩ := B11
 have hB1 := hk1.below hB hB.size (by simp)
 clear C0 F0 C1 F1
 go_upto_region 4 with fail
 go_wp2_with (first
   | (go_at_call 50; refine (redges_any c1 c2 c3 c4 _ (HP.out.later hB1)).mono ?_; rintro e w2 ⟨X, bs, r, c, T, rfl, ht2, hpe2, hb2⟩; have T2 := Lib.hid ht2; have HT2 := Lib.hid hpe2; clear ht2 hpe2)
   | (go_at_call 49; refine (rsolof_any c _ T2.out hN8 hF1 hF8).mono ?_; rintro e w3 ⟨B1', d1, B2', d2, rfl, hr3, hb3⟩; have HR3 := Lib.hid hr3; have HK3 := Lib.hid (((Kept.refl [] w1).call hb2).call hb3); have ⟨L13, C13, F13⟩ := HK3.out.blk (by simp) B11; clear hr3))
 have B13 := HK3.out.blk (by simp) B11
 have hB3 : Below w.heap.size w w3 := HK3.out.below hB1 hB1.size (by simp)
 refine retNamedT (fun Y => Blk Y b1 [.slice B1' n1 d1, .slice B2' n1 d2] ∧ Kept [b1] w3 Y) ⟨(B13.set 0 _).set 1 _, ((Kept.refl [b1] w3).set b1 0 _ (.inl (by simp))).set b1 1 _ (.inl (by simp))⟩ ?_
 rintro Y ⟨BY, hkY⟩
 have ⟨LY, CY, FY⟩ := BY
 refine bodyPost_ret (by simp [results, Tryz.results19, go_sem, CY]; try rfl) rfl ?_
 have e1 : (List.range n1).map (fun x => T x 0 0) = (List.range n1).map (solR p) := List.map_congr_left fun x _ => solR_eq (HT2.out x 0 0)
 have e2 : (List.range n1).map (fun x => tabL F T x F) = (List.range n1).map (solF p) := List.map_congr_left fun x _ => solF_tab HP.out.ok HP.out.Fn HT2.out x
 rw [← e1, ← e2]
 obtain ⟨h1, h2⟩ := HR3.out Y [b1] hkY (fun x hx => by rw [List.mem_singleton] at hx; have h8 := hb2.size; omega)
 exact ⟨B1', d1, B2', d2, rfl, h1, h2, hkY.below hB3 hB3.size (by simpa using G1)⟩
set_option maxRecDepth 100000 in
set_option maxHeartbeats 4000000 in
theorem rholds_any (A1 A2 : Option Addr) (n1 c1 n2 c2 : Nat) (re : List Bool) (fs : List (List Int)) (node fact : Int) (w : World) (hr : Bls w A1 n1 re) (hf : IntsR w A2 n2 fs) (h1 : n1 ≤ 9223372036854775807) (h2 : n2 ≤ 9223372036854775807) :
   Calls Tryz.prog 20 #[.agg #[.slice A1 n1 c1, .slice A2 n2 c2], .int .i64 node, .int .i64 fact] w fun e w' => e = .returned (.bool (holdsS re fs node fact)) ∧ Below w.heap.size w w' := by
 have HR := Lib.hid hr
 have HF := Lib.hid hf
 have HRL := Lib.hid hr.1
 have HFL := Lib.hid hf.1
 clear hr hf
 by_cases hn : node < 0
 · have HH : Hid (holdsS re fs node fact = false) := by show _ = _; unfold holdsS; rw [if_pos hn]
   go_enter Tryz.func20, Tryz.ntmps20
   go_upto_region 1 with fail
   refine wp_named (fun W => ∃ b0, w.heap.size = b0 ∧ Blk W b0 [.slice A1 n1 c1, .slice A2 n2 c2] ∧ Below w.heap.size w W) ⟨_, rfl, ?_, ?_⟩ ?_
   · exact kbn
   · go_grown
   rintro W ⟨b0, e0, B0, hB⟩
   rw [e0]
   have G0 : w.heap.size ≤ b0 := by omega
   clear e0
   have ⟨L0, C0, F0⟩ := B0
   go_wp2
   go_ret
   exact ⟨ret_bool HH.out.symm, hB⟩
 obtain ⟨k, rfl⟩ := Int.eq_ofNat_of_zero_le (show 0 ≤ node by omega)
 have hk0 : ¬ (k : Int) < 0 := hn
 by_cases hz : fact = 0
 · subst hz
   by_cases hlt : k < n1
   · obtain ⟨b1, o1, rfl, hl1, hc1⟩ := HR.out.2 (by omega)
     have hcell := hc1 k hlt
     obtain ⟨v, hv⟩ : ∃ v, gbl re k = v := ⟨_, rfl⟩
     rw [hv] at hcell
     have HH : Hid (holdsS re fs k 0 = v) := by show _ = _; unfold holdsS; rw [if_neg hk0, if_pos rfl, Int.toNat_natCast, hv, decide_eq_true (by rw [HRL.out]; exact hlt)]; rfl
     have hk1 : (k : Int) < (n1 : Int) := by omega
     clear hc1 hv
     go_enter Tryz.func20, Tryz.ntmps20
     go_upto_region 1 with fail
     refine wp_named (fun W => ∃ b0, w.heap.size = b0 ∧ Blk W b0 [.slice (some ⟨b1, o1, none⟩) n1 c1, .slice A2 n2 c2] ∧ Below w.heap.size w W) ⟨_, rfl, ?_, ?_⟩ ?_
     · exact kbn
     · go_grown
     rintro W ⟨b0, e0, B0, hB⟩
     rw [e0]
     have G0 : w.heap.size ≤ b0 := by omega
     clear e0
     have ⟨L0, C0, F0⟩ := B0
     have r1 : W.cell? ⟨b1, o1 + k, none⟩ = some (.bool v) := (hB.cell (p := ⟨b1, _, none⟩) hl1).trans hcell
     have hl1W : b1 < W.heap.size := Nat.lt_of_lt_of_le hl1 hB.size
     go_wp2
     go_ret
     exact ⟨ret_bool HH.out.symm, hB⟩
   · have HH : Hid (holdsS re fs k 0 = false) := by show _ = _; unfold holdsS; rw [if_neg hk0, if_pos rfl, Int.toNat_natCast, decide_eq_false (by rw [HRL.out]; exact hlt)]; rfl
     have hk1 : ¬ (k : Int) < (n1 : Int) := by omega
     go_enter Tryz.func20, Tryz.ntmps20
     go_upto_region 1 with fail
     refine wp_named (fun W => ∃ b0, w.heap.size = b0 ∧ Blk W b0 [.slice A1 n1 c1, .slice A2 n2 c2] ∧ Below w.heap.size w W) ⟨_, rfl, ?_, ?_⟩ ?_
     · exact kbn
     · go_grown
     rintro W ⟨b0, e0, B0, hB⟩
     rw [e0]
     have G0 : w.heap.size ≤ b0 := by omega
     clear e0
     have ⟨L0, C0, F0⟩ := B0
     go_wp2
     go_ret
     exact ⟨ret_bool HH.out.symm, hB⟩
 have hz1 : (fact == 0) = false := by simpa using hz
 by_cases hlt : k < n2
 case neg =>
   have HH : Hid (holdsS re fs k fact = false) := by show _ = _; unfold holdsS; rw [if_neg hk0, if_neg hz, Int.toNat_natCast, decide_eq_false (by rw [HFL.out]; exact hlt)]; rfl
   have hk1 : ¬ (k : Int) < (n2 : Int) := by omega
   have hk2 : (n2 : Int) ≤ (k : Int) := by omega
   clear hz
   go_enter Tryz.func20, Tryz.ntmps20
   go_upto_region 1 with fail
   refine wp_named (fun W => ∃ b0, w.heap.size = b0 ∧ Blk W b0 [.slice A1 n1 c1, .slice A2 n2 c2] ∧ Below w.heap.size w W) ⟨_, rfl, ?_, ?_⟩ ?_
   · exact kbn
   · go_grown
   rintro W ⟨b0, e0, B0, hB⟩
   rw [e0]
   have G0 : w.heap.size ≤ b0 := by omega
   clear e0
   have ⟨L0, C0, F0⟩ := B0
   go_wp2
   go_ret
   exact ⟨ret_bool HH.out.symm, hB⟩
 obtain ⟨b1, o1, rfl, hl1, hc1⟩ := HF.out.2 (by omega)
 obtain ⟨Ai, ni, ci, hcell, hints, hni⟩ := hc1 k hlt
 have HH : Hid (holdsS re fs k fact = decide (fact ∈ gil fs k)) := by show _ = _; unfold holdsS; rw [if_neg hk0, if_neg hz, Int.toNat_natCast, decide_eq_true (by rw [HFL.out]; exact hlt)]; rfl
 have hk1 : (k : Int) < (n2 : Int) := by omega
 have hk2 : ¬ (n2 : Int) ≤ (k : Int) := by omega
 have HI := Lib.hid hints
 clear hc1 hz hints
 go_enter Tryz.func20, Tryz.ntmps20
 go_upto_region 1 with fail
 refine wp_named (fun W => ∃ b0, w.heap.size = b0 ∧ Blk W b0 [.slice A1 n1 c1, .slice (some ⟨b1, o1, none⟩) n2 c2] ∧ Below w.heap.size w W) ⟨_, rfl, ?_, ?_⟩ ?_
 · exact kbn
 · go_grown
 rintro W ⟨b0, e0, B0, hB⟩
 rw [e0]
 have G0 : w.heap.size ≤ b0 := by omega
 clear e0
 have ⟨L0, C0, F0⟩ := B0
 have r1 : W.cell? ⟨b1, o1 + k, none⟩ = some (.slice Ai ni ci) := (hB.cell (p := ⟨b1, _, none⟩) hl1).trans hcell
 have hl1W : b1 < W.heap.size := Nat.lt_of_lt_of_le hl1 hB.size
 have HIW := Lib.hid (HI.out.later hB)
 clear hcell
 go_wp2_with (go_at_call 51; refine (rhas_any Ai ni ci (gil fs k) fact _ HIW.out hni).mono ?_; rintro e w1 ⟨rfl, rfl⟩)
 go_ret
 exact ⟨ret_bool HH.out.symm, hB⟩
end Go.Proofs.YtincpmdldpakkaaGreatDoor
