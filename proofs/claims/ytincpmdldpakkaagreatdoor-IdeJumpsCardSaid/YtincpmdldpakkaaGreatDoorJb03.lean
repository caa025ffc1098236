/- Texts: Ec Se Sf. -/
import Derived.Test.YtincpmdldpakkaaGreatDoorJb02
namespace Go.Df
open Go.RowKit
theorem Sp.ordP_ge (a b : Sp.Xp) : decide (0 ≤ Sp.orL [Sp.cmpI a.i b.i, Sp.cmpI a.o b.o]) = !Sp.lessP a b := by
 unfold Sp.lessP
 rw [Sp.or_cmp, Sp.or_last]
 split <;> rfl
theorem two_ints (w : World) (x y : Int) (t : TypeId) (b : Nat) (hb : b = w.heap.size) : Ints (w.alloc (.cells #[.int .i64 x, .int .i64 y] t)) (some ⟨b, 0, none⟩) 2 [x, y] := by
 subst hb
 refine ⟨rfl, fun _ => ⟨_, _, rfl, by simp, fun i hi => ?_⟩⟩
 rw [World.cell?_alloc_new, Nat.zero_add]
 match i, hi with
 | 0, _ => rfl
 | 1, _ => rfl
structure Gv (w : World) : Prop where
 c0 : w.cell? ⟨0, 0, none⟩ = some (.int .i64 2)
 c1 : w.cell? ⟨0, 1, none⟩ = some (.int .i64 0)
 c2 : w.cell? ⟨0, 2, none⟩ = some (.int .i64 0)
 lt : 0 < w.heap.size
theorem Gv.later {w w' : World} (h : Gv w) (hb : Below w.heap.size w w') : Gv w' := ⟨(hb.cell (p := ⟨0, _, none⟩) h.lt).trans h.c0, (hb.cell (p := ⟨0, _, none⟩) h.lt).trans h.c1, (hb.cell (p := ⟨0, _, none⟩) h.lt).trans h.c2, Nat.lt_of_lt_of_le h.lt hb.size⟩
end Go.Df
namespace Go.Proofs.YtincpmdldpakkaaGreatDoor
open Go.RowKit Go.Df
attribute [local go_sem ↓] Go.wp_at_zero Go.wp_at_succ
set_option maxRecDepth 100000 in
set_option maxHeartbeats 4000000 in
theorem cpairs_any (A : Option Addr) (n c : Nat) (F : Int) (l : List Sp.Xp) (w : World) (hp : Xps w A n l) (hgv : Gv w) :
   Calls Tryz.prog 73 #[.slice A n c, .int .i64 F] w fun e w' => e = .returned (.int .i64 (Sp.pairsErr F l)) ∧ Below w.heap.size w w' := by
 have HP := Lib.hid hp
 have HGV := Lib.hid hgv
 have HL := Lib.hid hp.1
 clear hp hgv
 by_cases t1 : 8192 < n
 · have d1 : decide ((8192 : Int) < n) = true := by simp; omega
   go_enter Tryz.func73, Tryz.ntmps73
   go_wp2_with fail
   go_ret
   exact ⟨ret_int (by unfold Sp.pairsErr; rw [HL.out, if_pos (by omega)]), Below.refl _ _⟩
 have d1 : decide ((8192 : Int) < n) = false := by simp; omega
 have h8 : Hid (l.length ≤ 8192) := by show _ ≤ _; rw [HL.out]; omega
 go_enter Tryz.func73, Tryz.ntmps73
 go_wp2_with fail
 go_loopw [13] (fun i wr => ∃ j : Nat, j ≤ n ∧ i = .int .i64 j ∧ Kept [] w wr ∧ Hid (∀ x, x < j → Sp.pairErr F l x = 0)) (fun i _ => n - (intOf i).toNat)
 case atStart => exact ⟨0, Nat.zero_le _, rfl, Kept.refl _ _, Lib.hid (fun j hj => absurd hj (by omega))⟩
 case round =>
   obtain ⟨j, hj, rfl, hkr, hno⟩ := hrel
   have hBr := hkr.toBelow
   by_cases hlt : j < n
   · obtain ⟨b, o, rfl, hl, hc⟩ := (HP.out.later hBr).2 (by omega)
     obtain ⟨h1, h2, h3, h4, h5⟩ := hc j hlt
     have HC := Lib.hid hc
     have LB := Lib.hid hl
     clear hc
     obtain ⟨xi, xo, xk, xb, xc, en⟩ : ∃ xi xo xk xb xc, Sp.gx l j = ⟨xi, xo, xk, xb, xc⟩ := ⟨_, _, _, _, _, rfl⟩
     rw [en] at h1 h2 h3 h4 h5
     have HE := Lib.hid en
     clear en
     go_upto_region 6 with fail
     refine wp_named (fun V => ∃ g, wr.heap.size = g ∧ Blk V g [.int .i64 xi, .int .i64 xo, .int .i64 xk, .int .i64 xb, .int .i64 xc] ∧ Kept [] wr V) ⟨_, rfl, Blk.new _ _ _ _ rfl, (Kept.refl _ _).alloc _⟩ ?_
     rintro V ⟨g, eg, Bg, hkV⟩
     rw [eg]
     have hkw : Kept [] w V := keptTrans hkr hkV
     have ⟨LG, CG, FG⟩ := Bg
     have hBV := hkw.toBelow
     clear h1 h2 h3 h4 h5 eg
     have hbad : Hid (∀ e, Sp.pairErr F l j = e → e ≠ 0 → Sp.pairsErr F l = e) := fun e h1 h2 => Sp.pairs_hit h8.out hno.out (by rw [HL.out]; exact hlt) h1 h2
     have hstep : Hid (Sp.pairErr F l j = 0 → ∀ x, x < j + 1 → Sp.pairErr F l x = 0) := fun h0 x hx => by
       rcases Nat.lt_or_ge x j with h9 | h9
       · exact hno.out x h9
       · obtain rfl : x = j := by omega
         exact h0
     have HEr : Hid (Sp.pairErr F l j = if xi < 0 ∨ F ≤ xi ∨ xo < 0 ∨ F ≤ xo then 4 else if 0 < j ∧ Sp.lessP (Sp.gx l (j - 1)) ⟨xi, xo, xk, xb, xc⟩ = false then 13 else Sp.xerr xk xb xc) := by
       show _ = _
       unfold Sp.pairErr
       rw [HE.out]
     by_cases r0 : xi < 0
     · have z : decide (xi < 0) = true := by simpa using r0
       have hE := Lib.hid (hbad.out 4 (by rw [HEr.out, if_pos (by omega)]) (by omega))
       go_wp2_with fail
       go_ret
       exact ⟨ret_int hE.out.symm, hBV⟩
     have z0 : decide (xi < 0) = false := by simpa using r0
     by_cases r1 : F ≤ xi
     · have z : decide (F ≤ xi) = true := by simpa using r1
       have hE := Lib.hid (hbad.out 4 (by rw [HEr.out, if_pos (by omega)]) (by omega))
       go_wp2_with fail
       go_ret
       exact ⟨ret_int hE.out.symm, hBV⟩
     have z1 : decide (F ≤ xi) = false := by simpa using r1
     by_cases r2 : xo < 0
     · have z : decide (xo < 0) = true := by simpa using r2
       have hE := Lib.hid (hbad.out 4 (by rw [HEr.out, if_pos (by omega)]) (by omega))
       go_wp2_with fail
       go_ret
       exact ⟨ret_int hE.out.symm, hBV⟩
     have z2 : decide (xo < 0) = false := by simpa using r2
     by_cases r3 : F ≤ xo
     · have z : decide (F ≤ xo) = true := by simpa using r3
       have hE := Lib.hid (hbad.out 4 (by rw [HEr.out, if_pos (by omega)]) (by omega))
       go_wp2_with fail
       go_ret
       exact ⟨ret_int hE.out.symm, hBV⟩
     have z3 : decide (F ≤ xo) = false := by simpa using r3
     have HEy : Hid (Sp.pairErr F l j = if 0 < j ∧ Sp.lessP (Sp.gx l (j - 1)) ⟨xi, xo, xk, xb, xc⟩ = false then 13 else Sp.xerr xk xb xc) := by
       show _ = _
       rw [HEr.out, if_neg (by omega)]
     clear HEr r0 r1 r2 r3
     by_cases hj0 : j = 0
     · have y1 : decide (0 < j) = false := by simp; omega
       have y2 : decide ((0 : Int) < (j : Int)) = false := by simp; omega
       have HEz : Hid (Sp.pairErr F l j = Sp.xerr xk xb xc) := by show _ = _; rw [HEy.out, if_neg (by omega)]
       clear hj0
       go_upto_region 8 with fail
       go_quiet (fail)
       go_wp2_with fail
       refine (xcheck_any xk xb xc _).mono ?_
       rintro e w5 ⟨rfl, hb5⟩
       have hk5 : Kept [] w w5 := (hkw.drewN _).call hb5
       by_cases hx0 : Sp.xerr xk xb xc = 0
       · rw [hx0]
         have hfin := Lib.hid (hstep.out (by rw [HEz.out, hx0]))
         clear hx0
         go_wp2_with fail
         exact ⟨⟨j + 1, by omega, by go_num, hk5, hfin⟩, by simp [intOf]; omega⟩
       · have hE := Lib.hid (hbad.out _ HEz.out hx0)
         have hx0' : (Sp.xerr xk xb xc != 0) = true := by simpa using hx0
         clear hx0
         go_wp2_with fail
         go_ret
         exact ⟨ret_int hE.out.symm, hk5.toBelow⟩
     have y1 : decide (0 < j) = true := by simp; omega
     have y2 : decide ((0 : Int) < (j : Int)) = true := by simp; omega
     have y3 : IntKind.i64.wrap ((j : Int) - 1) = (j : Int) - 1 := IntWalk.i64_in _ (by omega)
     have y4 : (0 : Int) ≤ (j : Int) - 1 := by omega
     have y5 : ((j : Int) - 1).toNat = j - 1 := by omega
     have y6 : (j : Int) - 1 < (n : Int) := by omega
     have y7 : 0 < j := by omega
     have y8 : 1 ≤ j := by omega
     have y9 : (1 : Int) ≤ (j : Int) := by omega
     have y10 : j ≤ n := by omega
     have y11 : j < n + 1 := by omega
     have y12 : (j : Int) < (n : Int) + 1 := by omega
     have y13 : (j : Int) ≤ (n : Int) := by omega
     obtain ⟨p1, p2, -, -, -⟩ := HC.out (j - 1) (by omega)
     obtain ⟨pi, po, pk, pb, pc, ep⟩ : ∃ pi po pk pb pc, Sp.gx l (j - 1) = ⟨pi, po, pk, pb, pc⟩ := ⟨_, _, _, _, _, rfl⟩
     rw [ep] at p1 p2
     have q1 : V.cell? ⟨b, o + (j - 1) * 5, none⟩ = some (.int .i64 pi) := (hkV.cell b _ LB.out (by simp)).trans p1
     have q2 : V.cell? ⟨b, o + (j - 1) * 5 + 1, none⟩ = some (.int .i64 po) := (hkV.cell b _ LB.out (by simp)).trans p2
     have hbV : b < V.heap.size := Nat.lt_of_lt_of_le LB.out hkV.size
     have HEx : Hid (Sp.pairErr F l j = if Sp.lessP ⟨pi, po, pk, pb, pc⟩ ⟨xi, xo, xk, xb, xc⟩ = false then 13 else Sp.xerr xk xb xc) := by
       show _ = _
       rw [HEy.out, ep]
       simp [y7]
     clear p1 p2 ep hj0
     go_upto_region 8 with fail
     go_cut [62] (fun s wx => s = .bool (!Sp.lessP ⟨pi, po, pk, pb, pc⟩ ⟨xi, xo, xk, xb, xc⟩) ∧ Kept [] V wx)
     case first =>
       go_region_held3 (fun w' => SX0 V w') (exact kp0)
         (first | (go_at_call 55; refine (compare_any _ _ _).mono ?_; rintro e w1 ⟨rfl, rfl⟩) | (go_at_call 54; refine (or_any _ _ _ [Sp.cmpI pi xi, Sp.cmpI po xo] _ (by first | exact two_ints _ _ _ _ _ (by first | rfl | simp) | exact Ints.drew (two_ints _ _ _ _ _ (by first | rfl | simp))) (by omega) (by omega)).mono ?_; rintro e w2 ⟨rfl, rfl⟩))
       all_goals
         go_wp2_with fail
         go_meet
         refine ⟨congrArg Value.bool (Sp.ordP_ge ⟨pi, po, pk, pb, pc⟩ ⟨xi, xo, xk, xb, xc⟩), ?_⟩
         (exact kpt0)
     case rest =>
       obtain ⟨rfl, hkc⟩ := hcut
       have hkwc : Kept [] w wc := keptTrans hkw hkc
       have ⟨LC, CC, FC⟩ := hkc.blk (by simp) Bg
       clear CG FG q1 q2
       by_cases hles : Sp.lessP ⟨pi, po, pk, pb, pc⟩ ⟨xi, xo, xk, xb, xc⟩ = true
       · rw [hles]
         have HEz : Hid (Sp.pairErr F l j = Sp.xerr xk xb xc) := by show _ = _; rw [HEx.out, hles, if_neg (by simp)]
         clear hles
         go_wp2_with fail
         refine (xcheck_any xk xb xc _).mono ?_
         rintro e w5 ⟨rfl, hb5⟩
         have hk5 : Kept [] w w5 := (hkwc).call hb5
         by_cases hx0 : Sp.xerr xk xb xc = 0
         · rw [hx0]
           have hfin := Lib.hid (hstep.out (by rw [HEz.out, hx0]))
           clear hx0
           go_wp2_with fail
           exact ⟨⟨j + 1, by omega, by go_num, hk5, hfin⟩, by simp [intOf]; omega⟩
         · have hE := Lib.hid (hbad.out _ HEz.out hx0)
           have hx0' : (Sp.xerr xk xb xc != 0) = true := by simpa using hx0
           clear hx0
           go_wp2_with fail
           go_ret
           exact ⟨ret_int hE.out.symm, hk5.toBelow⟩
       · rw [Bool.not_eq_true] at hles
         rw [hles]
         have hE := Lib.hid (hbad.out 13 (by rw [HEx.out, hles, if_pos rfl]) (by omega))
         clear hles
         go_wp2_with fail
         go_ret
         exact ⟨ret_int hE.out.symm, hkwc.toBelow⟩
   · obtain rfl : j = n := by omega
     have hall : Hid (∀ x, x < l.length → Sp.pairErr F l x = 0) := fun x hx => hno.out x (by rw [HL.out] at hx; exact hx)
     have HZ := Lib.hid (Sp.pairs_end h8.out hall.out)
     obtain ⟨gv0, gv1, gv2, gvl⟩ := HGV.out.later hBr
     clear hno hlt
     by_cases hn0 : j = 0
     · have k1 : ((j : Int) == 0) = true := by simp; omega
       have k2 : (j == 0) = true := by simp; omega
       have hE : Hid (Sp.pairsErr F l = 1) := by show _ = _; rw [HZ.out, if_pos (.inl (by rw [HL.out]; exact hn0))]
       have HN0 := Lib.hid hn0
       clear hn0
       go_upto_region 14 with fail
       go_quiet (fail)
       go_wp2_with fail
       go_ret
       exact ⟨ret_int hE.out.symm, (hkr.drewN _).toBelow⟩
     · have k1 : ((j : Int) == 0) = false := by simp; omega
       have k2 : (j == 0) = false := by simp; omega
       obtain ⟨b, o, rfl, hl, hc⟩ := (HP.out.later hBr).2 (by omega)
       obtain ⟨h1, h2, h3, h4, h5⟩ := hc 0 (by omega)
       simp only [Nat.zero_mul, Nat.add_zero] at h1 h2 h3 h4 h5
       obtain ⟨xi, xo, xk, xb, xc, en⟩ : ∃ xi xo xk xb xc, Sp.gx l 0 = ⟨xi, xo, xk, xb, xc⟩ := ⟨_, _, _, _, _, rfl⟩
       rw [en] at h1 h2 h3 h4 h5
       have hjp : 0 < j := by omega
       have HE : Hid (Sp.pairsErr F l = if (⟨xi, xo, xk, xb, xc⟩ : Sp.Xp) ≠ ⟨0, 0, 2, 0, 0⟩ then 1 else 0) := by
         show _ = _
         rw [HZ.out, en, HL.out]
         simp [hn0]
       clear en hc hn0
       by_cases hq : (⟨xi, xo, xk, xb, xc⟩ : Sp.Xp) = ⟨0, 0, 2, 0, 0⟩
       · obtain ⟨rfl, rfl, rfl, rfl, rfl⟩ : xi = 0 ∧ xo = 0 ∧ xk = 2 ∧ xb = 0 ∧ xc = 0 := by simpa using hq
         have hE := Lib.hid (HE.out.trans (if_neg (not_not_intro rfl)))
         clear hq
         go_upto_region 14 with fail
         go_quiet (fail)
         go_wp2_with fail
         go_ret
         exact ⟨ret_int hE.out.symm, (hkr.drewN _).toBelow⟩
       · have hE := Lib.hid (HE.out.trans (if_pos hq))
         have HQ := Lib.hid hq
         clear hq
         by_cases exi : xi = 0
         case neg =>
           have fxi : (xi == 0) = false := by simpa using exi
           have fxi' : (xi != 0) = true := by simpa using exi
           clear exi
           go_upto_region 14 with fail
           go_quiet (fail)
           go_wp2_with fail
           all_goals
             go_ret
             exact ⟨ret_int hE.out.symm, (hkr.drewN _).toBelow⟩
         subst exi
         by_cases exo : xo = 0
         case neg =>
           have fxo : (xo == 0) = false := by simpa using exo
           have fxo' : (xo != 0) = true := by simpa using exo
           clear exo
           go_upto_region 14 with fail
           go_quiet (fail)
           go_wp2_with fail
           all_goals
             go_ret
             exact ⟨ret_int hE.out.symm, (hkr.drewN _).toBelow⟩
         subst exo
         by_cases exk : xk = 2
         case neg =>
           have fxk : (xk == 2) = false := by simpa using exk
           have fxk' : (xk != 2) = true := by simpa using exk
           clear exk
           go_upto_region 14 with fail
           go_quiet (fail)
           go_wp2_with fail
           all_goals
             go_ret
             exact ⟨ret_int hE.out.symm, (hkr.drewN _).toBelow⟩
         subst exk
         by_cases exb : xb = 0
         case neg =>
           have fxb : (xb == 0) = false := by simpa using exb
           have fxb' : (xb != 0) = true := by simpa using exb
           clear exb
           go_upto_region 14 with fail
           go_quiet (fail)
           go_wp2_with fail
           all_goals
             go_ret
             exact ⟨ret_int hE.out.symm, (hkr.drewN _).toBelow⟩
         subst exb
         by_cases exc : xc = 0
         case neg =>
           have fxc : (xc == 0) = false := by simpa using exc
           have fxc' : (xc != 0) = true := by simpa using exc
           clear exc
           go_upto_region 14 with fail
           go_quiet (fail)
           go_wp2_with fail
           all_goals
             go_ret
             exact ⟨ret_int hE.out.symm, (hkr.drewN _).toBelow⟩
         subst exc
         exact absurd rfl HQ.out
end Go.Proofs.YtincpmdldpakkaaGreatDoor
namespace Go.Df.Sp
theorem nodes_node {ns : List Nd} {m e : Int} {j : Nat} (h : ∀ x, x < j → nodeErr ns x = 0) (hj : j < ns.length) (he : nodeErr ns j = e) (h0 : e ≠ 0) : nodesErr ns m = e := by
 have h1 := fe_hit h hj he h0
 unfold nodesErr
 rw [h1, if_pos h0]
theorem nodes_whole {ns : List Nd} {m e : Int} {j : Nat} (hn : ∀ x, x < ns.length → nodeErr ns x = 0) (h : ∀ x, x < j → wholeErr ns x = 0) (hj : j < ns.length) (he : wholeErr ns j = e) (h0 : e ≠ 0) : nodesErr ns m = e := by
 have h1 := fe_hit h hj he h0
 have h2 : fe (nodeErr ns) 0 ns.length = 0 := fe_ok _ 0 (fun i _ hi => hn i (by omega))
 unfold nodesErr
 rw [h2, if_neg (by simp), h1, if_pos h0]
theorem nodes_main {ns : List Nd} {m : Int} (hn : ∀ x, x < ns.length → nodeErr ns x = 0) (h : ∀ x, x < ns.length → wholeErr ns x = 0) : nodesErr ns m = mainErr ns m := by
 have h1 : fe (wholeErr ns) 0 ns.length = 0 := fe_ok _ 0 (fun i _ hi => h i (by omega))
 have h2 : fe (nodeErr ns) 0 ns.length = 0 := fe_ok _ 0 (fun i _ hi => hn i (by omega))
 unfold nodesErr
 rw [h2, if_neg (by simp), h1, if_neg (by simp)]
end Go.Df.Sp
namespace Go.Proofs.YtincpmdldpakkaaGreatDoor
open Go.RowKit Go.Df
attribute [local go_sem ↓] Go.wp_at_zero Go.wp_at_succ
set_option maxRecDepth 100000 in
set_option maxHeartbeats 2000000 in
theorem nodes_any (A1 A2 : Option Addr) (n1 c1 n2 c2 : Nat) (mn : Int) (ns : List Sp.Nd) (w : World) (hn : Nds w A1 n1 ns) (hs : n1 ≤ 1000000) :
   Calls Tryz.prog 68 #[.agg #[.slice A1 n1 c1, .slice A2 n2 c2, .int .i64 mn]] w fun e w' => e = .returned (.int .i64 (Sp.nodesErr ns mn)) ∧ Below w.heap.size w w' := by
 have HN := Lib.hid hn
 have HL := Lib.hid hn.1
 clear hn
 go_enter Tryz.func68, Tryz.ntmps68
 go_upto_region 1 with fail
 refine wp_named (fun W => ∃ b0, w.heap.size = b0 ∧ Blk W b0 [.slice A1 n1 c1, .slice A2 n2 c2, .int .i64 mn] ∧ Below w.heap.size w W) ⟨_, rfl, ?_, ?_⟩ ?_
 · exact kbn
 · go_grown
 rintro W ⟨b0, e0, B0, hB⟩
 rw [e0]
 have G0 : w.heap.size ≤ b0 := by omega
 clear e0
 have ⟨L0, C0, F0⟩ := B0
 have HW := Lib.hid (HN.out.later hB)
 go_wp2_with fail
 go_loopw [3] (fun i wr => ∃ j : Nat, j ≤ n1 ∧ i = .int .i64 j ∧ Kept [] W wr ∧ Hid (∀ x, x < j → Sp.nodeErr ns x = 0)) (fun i _ => n1 - (intOf i).toNat)
 case atStart => exact ⟨0, Nat.zero_le _, rfl, Kept.refl _ _, Lib.hid (fun j hj => absurd hj (by omega))⟩
 case round =>
   obtain ⟨j, hj, rfl, hkr, hno⟩ := hrel
   have BR := hkr.blk (by simp) B0
   have ⟨LR, CR, FR⟩ := BR
   clear C0 F0
   by_cases hlt : j < n1
   · obtain ⟨b, o, rfl, hl, hc⟩ := (HW.out.kept hkr).2 (by omega)
     obtain ⟨h1, h2, h3⟩ := hc j hlt
     have HC := Lib.hid hc
     have LB := Lib.hid hl
     clear hc
     obtain ⟨nf, nk, ni, en⟩ : ∃ nf nk ni, gn ns j = ⟨nf, nk, ni⟩ := ⟨_, _, _, rfl⟩
     rw [en] at h1 h2 h3
     have HE := Lib.hid en
     clear en
     go_upto_region 5 with fail
     refine wp_named (fun V => ∃ g, wr.heap.size = g ∧ Blk V g [.int .i64 nf, .int .i64 nk, .int .i64 ni] ∧ Kept [] wr V) ⟨_, rfl, Blk.new _ _ _ _ rfl, (Kept.refl _ _).alloc _⟩ ?_
     rintro V ⟨g, eg, Bg, hkV⟩
     rw [eg]
     have hkw : Kept [] W V := keptTrans hkr hkV
     have BV := hkw.blk (by simp) B0
     have ⟨LV, CV, FV⟩ := BV
     have ⟨LG, CG, FG⟩ := Bg
     have hBV := hkw.below hB hB.size (by simp)
     clear CR FR h1 h2 h3 eg
     by_cases hk2 : nk = 2
     all_goals
       first
         | (have k1 : (nk == 2) = true := by simpa using hk2)
         | (have k1 : (nk == 2) = false := by simpa using hk2)
       first
         | (have k2 : (nk != 2) = false := by simpa using hk2)
         | (have k2 : (nk != 2) = true := by simpa using hk2)
       by_cases hi1 : ni = -1
       all_goals
         first
           | (have k3 : (ni != -1) = false := by simpa using hi1)
           | (have k3 : (ni != -1) = true := by simpa using hi1)
         have HK := Lib.hid hk2
         have HI := Lib.hid hi1
         clear hk2 hi1
         go_upto_region 9 with fail
         all_goals first
           | (go_ret; exact ⟨ret_int (Sp.nodes_node (e := 12) hno.out (by rw [HL.out]; exact hlt) (by unfold Sp.nodeErr; rw [HE.out]; dsimp only; rw [if_pos (by have := HK.out; have := HI.out; omega)]) (by omega)).symm, hBV⟩)
           | (go_ret; exact ⟨ret_int (Sp.nodes_node (e := 4) hno.out (by rw [HL.out]; exact hlt) (by unfold Sp.nodeErr; rw [HE.out]; dsimp only; rw [if_neg (by have := HK.out; have := HI.out; omega), if_pos (by have := HK.out; have := HI.out; omega)]) (by omega)).symm, hBV⟩)
           | skip
         all_goals
           have hz : Hid (Sp.nodeErr ns j = if 0 < j ∧ Sp.lessN (gn ns (j - 1)) ⟨nf, nk, ni⟩ = false then 13 else 0) := by
             show Sp.nodeErr ns j = _
             unfold Sp.nodeErr
             rw [HE.out]
             dsimp only
             rw [if_neg (by have := HK.out; have := HI.out; omega), if_neg (by have := HK.out; have := HI.out; omega)]
           have hno1 : Hid (Sp.nodeErr ns j = 0 → ∀ x, x < j + 1 → Sp.nodeErr ns x = 0) := fun h0 x hx => by
             rcases Nat.lt_or_ge x j with h9 | h9
             · exact hno.out x h9
             · obtain rfl : x = j := by omega
               exact h0
           by_cases hj0 : j = 0
           · have y1 : decide (0 < j) = false := by simp; omega
             have y2 : decide ((0 : Int) < (j : Int)) = false := by simp; omega
             have hfin : Hid (∀ x, x < j + 1 → Sp.nodeErr ns x = 0) := hno1.out (by rw [hz.out, if_neg (by omega)])
             clear hj0
             go_quiet (fail)
             go_wp2_with fail
             exact ⟨⟨j + 1, by omega, by go_num, hkw.drewN _, hfin⟩, by simp [intOf]; omega⟩
           · have y1 : decide (0 < j) = true := by simp; omega
             have y2 : decide ((0 : Int) < (j : Int)) = true := by simp; omega
             have y3 : IntKind.i64.wrap ((j : Int) - 1) = (j : Int) - 1 := IntWalk.i64_in _ (by omega)
             have y4 : (0 : Int) ≤ (j : Int) - 1 := by omega
             have y5 : ((j : Int) - 1).toNat = j - 1 := by omega
             have y6 : (j : Int) - 1 < (n1 : Int) := by omega
             have y7 : 0 < j := by omega
             have y8 : 1 ≤ j := by omega
             have y9 : (1 : Int) ≤ (j : Int) := by omega
             have y10 : j ≤ n1 := by omega
             have y11 : j < n1 + 1 := by omega
             have y12 : (j : Int) < (n1 : Int) + 1 := by omega
             have y13 : (j : Int) ≤ (n1 : Int) := by omega
             obtain ⟨p1, p2, p3⟩ := HC.out (j - 1) (by omega)
             obtain ⟨pf, pk, pi, ep⟩ : ∃ pf pk pi, gn ns (j - 1) = ⟨pf, pk, pi⟩ := ⟨_, _, _, rfl⟩
             rw [ep] at p1 p2 p3
             have q1 : V.cell? ⟨b, o + (j - 1) * 3, none⟩ = some (.int .i64 pf) := (hkV.cell b _ LB.out (by simp)).trans p1
             have q2 : V.cell? ⟨b, o + (j - 1) * 3 + 1, none⟩ = some (.int .i64 pk) := (hkV.cell b _ LB.out (by simp)).trans p2
             have q3 : V.cell? ⟨b, o + (j - 1) * 3 + 2, none⟩ = some (.int .i64 pi) := (hkV.cell b _ LB.out (by simp)).trans p3
             have hbV : b < V.heap.size := Nat.lt_of_lt_of_le LB.out hkV.size
             have HPe := Lib.hid ep
             clear p1 p2 p3 ep hj0
             go_cut [54] (fun s wx => s = .bool (!Sp.lessN ⟨pf, pk, pi⟩ ⟨nf, nk, ni⟩) ∧ Kept [] V wx)
             case first =>
               go_region_held3 (fun w' => SX0 V w') (exact kp0)
                 (first | (go_at_call 120; ((with_reducible refine (less_any pf pk pi nf nk ni _).mono ?_)); rintro e w3 ⟨rfl, hb3⟩; obtain ⟨hc3, hf3, hg3⟩ := bcell hb3; have hz3 := hb3.size; try simp at hz3))
               all_goals
                 go_wp2_with fail
                 go_meet
                 refine ⟨rfl, ?_⟩
                 (exact kpt0)
             case rest =>
               obtain ⟨rfl, hkc⟩ := hcut
               have hkwc : Kept [] W wc := keptTrans hkw hkc
               have hBc := hkwc.below hB hB.size (by simp)
               by_cases hles : Sp.lessN ⟨pf, pk, pi⟩ ⟨nf, nk, ni⟩ = true
               · rw [hles]
                 have hfin : Hid (∀ x, x < j + 1 → Sp.nodeErr ns x = 0) := hno1.out (by rw [hz.out, HPe.out, hles, if_neg (by simp)])
                 clear hles
                 go_wp2_with fail
                 exact ⟨⟨j + 1, by omega, by go_num, hkwc, hfin⟩, by simp [intOf]; omega⟩
               · rw [Bool.not_eq_true] at hles
                 rw [hles]
                 have hfin : Hid (Sp.nodeErr ns j = 13) := by
                   show Sp.nodeErr ns j = 13
                   rw [hz.out, HPe.out, hles, if_pos ⟨by omega, rfl⟩]
                 clear hles
                 go_wp2_with fail
                 go_ret
                 exact ⟨ret_int (Sp.nodes_node hno.out (by rw [HL.out]; exact hlt) hfin.out (by omega)).symm, hBc⟩
   · obtain rfl : j = n1 := by omega
     have k1 : decide (j < j) = false := by simp
     have hall : Hid (∀ x, x < ns.length → Sp.nodeErr ns x = 0) := fun x hx => hno.out x (by rw [HL.out] at hx; exact hx)
     clear hno
     go_wp2_with fail
     go_loopw [5] (fun i wz => ∃ q : Nat, q ≤ j ∧ i = .int .i64 q ∧ Kept [] W wz ∧ Hid (∀ x, x < q → Sp.wholeErr ns x = 0)) (fun i _ => j - (intOf i).toNat)
     case atStart => exact ⟨0, Nat.zero_le _, rfl, hkr, Lib.hid (fun j hj => absurd hj (by omega))⟩
     case round =>
       obtain ⟨q, hq, rfl, hkz, hno⟩ := hrel
       have BZ := hkz.blk (by simp) B0
       have ⟨LZ, CZ, FZ⟩ := BZ
       clear CR FR
       have hBz := hkz.below hB hB.size (by simp)
       by_cases hlt2 : q < j
       · obtain ⟨b, o, rfl, hl, hc⟩ := (HW.out.kept hkz).2 (by omega)
         obtain ⟨h1, h2, h3⟩ := hc q hlt2
         clear hc h2 h3
         have q1 : decide (q < j) = true := by simp; omega
         have q2 : decide ((q : Int) < (j : Int)) = true := by simp; omega
         go_wp2_with fail
         refine (exit_any _ _ _ _ _ _ _ _ ns _ (HW.out.kept hkz) hs).mono ?_
         rintro e w3 ⟨rfl, hb3⟩
         have hk3 : Kept [] W w3 := hkz.call hb3
         have B3 := hk3.blk (by simp) B0
         have ⟨L3, C3, F3⟩ := B3
         clear CZ FZ h1
         go_wp2_with fail
         refine (start_any _ _ _ _ _ _ _ _ ns _ (HW.out.kept hk3) hs).mono ?_
         rintro e w4 ⟨rfl, hb4⟩
         have hk4 : Kept [] W w4 := hk3.call hb4
         have hB4 := hk4.below hB hB.size (by simp)
         have hwe : Hid (Sp.wholeErr ns q = if Sp.kindAt ns (gn ns q).f 1 < 0 ∨ Sp.kindAt ns (gn ns q).f 3 < 0 ∨ Sp.kindAt ns (gn ns q).f 4 < 0 then 1 else 0) := Lib.hid rfl
         generalize Sp.kindAt ns (gn ns q).f 1 = s1 at *
         generalize Sp.kindAt ns (gn ns q).f 3 = s3 at *
         generalize Sp.kindAt ns (gn ns q).f 4 = s4 at *
         clear C3 F3
         have hfin : Hid (¬ (s1 < 0 ∨ s3 < 0 ∨ s4 < 0) → ∀ x, x < q + 1 → Sp.wholeErr ns x = 0) := fun h0 x hx => by
           rcases Nat.lt_or_ge x q with h9 | h9
           · exact hno.out x h9
           · obtain rfl : x = q := by omega
             rw [hwe.out, if_neg h0]
         go_wp2_with fail
         all_goals first
           | (go_ret; exact ⟨ret_int (Sp.nodes_whole hall.out hno.out (by rw [HL.out]; exact hlt2) (e := 1) (by rw [hwe.out, if_pos (by omega)]) (by omega)).symm, hB4⟩)
           | exact ⟨⟨q + 1, by omega, by go_num, hk4, Lib.hid (hfin.out (by omega))⟩, by simp [intOf]; omega⟩
       · obtain rfl : q = j := by omega
         have q1 : decide (q < q) = false := by simp
         have hw : Hid (∀ x, x < ns.length → Sp.wholeErr ns x = 0) := fun x hx => hno.out x (by rw [HL.out] at hx; exact hx)
         have hm : Hid (Sp.nodesErr ns mn = if mn < 0 ∨ (q : Int) ≤ mn ∨ (gn ns mn.toNat).k ≠ 1 then 14 else 0) := by
           show Sp.nodesErr ns mn = _
           rw [Sp.nodes_main hall.out hw.out, Sp.mainErr, HL.out]
         clear hno
         by_cases m0 : mn < 0
         · have z1 : decide (mn < 0) = true := by simpa using m0
           go_wp2_with fail
           go_ret
           exact ⟨ret_int (by rw [hm.out, if_pos (by omega)]), hBz⟩
         · have z1 : decide (mn < 0) = false := by simpa using m0
           by_cases m1 : (q : Int) ≤ mn
           · have z2 : decide ((q : Int) ≤ mn) = true := by simpa using m1
             go_wp2_with fail
             go_ret
             exact ⟨ret_int (by rw [hm.out, if_pos (by omega)]), hBz⟩
           · have z2 : decide ((q : Int) ≤ mn) = false := by simpa using m1
             obtain ⟨mm, rfl⟩ := Int.eq_ofNat_of_zero_le (show 0 ≤ mn by omega)
             obtain ⟨b, o, rfl, hl, hc⟩ := (HW.out.kept hkz).2 (by omega)
             obtain ⟨h1, h2, h3⟩ := hc mm (by omega)
             clear hc h1 h3
             have hmm : mm < q := by omega
             rw [Int.toNat_natCast] at hm
             by_cases m2 : (gn ns mm).k = 1
             · have z3 : ((gn ns mm).k != 1) = false := by simp [m2]
               have M2 := Lib.hid m2
               clear m2
               go_wp2_with fail
               go_ret
               exact ⟨ret_int (by rw [hm.out, if_neg (by have := M2.out; omega)]), hBz⟩
             · have z3 : ((gn ns mm).k != 1) = true := by simp [m2]
               go_wp2_with fail
               go_ret
               exact ⟨ret_int (by rw [hm.out, if_pos (.inr (.inr m2))]), hBz⟩
end Go.Proofs.YtincpmdldpakkaaGreatDoor
namespace Go.Df.Sp
def callB (ns : List Nd) (c f : Int) (e : Ed) : Bool := decide (e.k = 2) && decide (e.a = c) && decide (0 ≤ e.b) && decide (e.b < ns.length) && decide ((gn ns e.b.toNat).f = f) && decide ((gn ns e.b.toNat).k = 1)
def callsB (ns : List Nd) (es : List Ed) (c f : Int) : Bool := es.any (callB ns c f)
theorem calls_hit {ns : List Nd} {es : List Ed} {c f : Int} {j : Nat} (hj : j < es.length) (h : callB ns c f (ge es j) = true) : callsB ns es c f = true := by
 unfold callsB
 rw [List.any_eq_true]
 exact ⟨ge es j, by rw [ge_lt hj]; exact List.getElem_mem hj, h⟩
theorem calls_miss {ns : List Nd} {es : List Ed} {c f : Int} (h : ∀ j, j < es.length → callB ns c f (ge es j) = false) : callsB ns es c f = false := by
 unfold callsB
 rw [List.any_eq_false]
 intro x hx
 obtain ⟨j, hj, rfl⟩ := List.getElem_of_mem hx
 have := h j hj
 rw [ge_lt hj] at this
 simp [this]
end Go.Df.Sp
namespace Go.Proofs.YtincpmdldpakkaaGreatDoor
open Go.RowKit Go.Df
attribute [local go_sem ↓] Go.wp_at_zero Go.wp_at_succ
set_option maxRecDepth 100000 in
set_option maxHeartbeats 2000000 in
theorem calls_any (A1 A2 : Option Addr) (n1 c1 n2 c2 : Nat) (mn cl f : Int) (ns : List Sp.Nd) (es : List Sp.Ed) (w : World) (hn : Nds w A1 n1 ns) (he : Eds w A2 n2 es) (hs : n1 ≤ 1000000) (hs2 : n2 ≤ 1000000) :
   Calls Tryz.prog 122 #[.agg #[.slice A1 n1 c1, .slice A2 n2 c2, .int .i64 mn], .int .i64 cl, .int .i64 f] w fun e w' => e = .returned (.bool (Sp.callsB ns es cl f)) ∧ Below w.heap.size w w' := by
 have HN := Lib.hid hn
 have HL := Lib.hid hn.1
 have HE := Lib.hid he
 have HLe := Lib.hid he.1
 clear hn he
 go_enter Tryz.func122, Tryz.ntmps122
 go_upto_region 1 with fail
 refine wp_named (fun W => ∃ b0, w.heap.size = b0 ∧ Blk W b0 [.slice A1 n1 c1, .slice A2 n2 c2, .int .i64 mn] ∧ Below w.heap.size w W) ⟨_, rfl, ?_, ?_⟩ ?_
 · exact kbn
 · go_grown
 rintro W ⟨b0, e0, B0, hB⟩
 rw [e0]
 have G0 : w.heap.size ≤ b0 := by omega
 clear e0
 have ⟨L0, C0, F0⟩ := B0
 have HW := Lib.hid (HN.out.later hB)
 have HWe := Lib.hid (HE.out.later hB)
 go_wp2_with fail
 go_loopw [7] (fun i wr => ∃ j : Nat, j ≤ n2 ∧ i = .int .i64 j ∧ Kept [] W wr ∧ Hid (∀ x, x < j → Sp.callB ns cl f (ge es x) = false)) (fun i _ => n2 - (intOf i).toNat)
 case atStart => exact ⟨0, Nat.zero_le _, rfl, Kept.refl _ _, Lib.hid (fun j hj => absurd hj (by omega))⟩
 case round =>
   obtain ⟨j, hj, rfl, hkr, hno⟩ := hrel
   have BR := hkr.blk (by simp) B0
   have ⟨LR, CR, FR⟩ := BR
   clear C0 F0
   by_cases hlt : j < n2
   · obtain ⟨b, o, rfl, hl, hc⟩ := (HWe.out.kept hkr).2 (by omega)
     obtain ⟨h1, h2, h3, h4⟩ := hc j hlt
     clear hc
     obtain ⟨ea, eb, ek, ec, en⟩ : ∃ ea eb ek ec, ge es j = ⟨ea, eb, ek, ec⟩ := ⟨_, _, _, _, rfl⟩
     rw [en] at h1 h2 h3 h4
     have HEe := Lib.hid en
     clear en
     go_upto_region 5 with fail
     refine wp_named (fun V => ∃ g, wr.heap.size = g ∧ Blk V g [.int .i64 ea, .int .i64 eb, .int .i64 ek, .int .i64 ec] ∧ Kept [] wr V) ⟨_, rfl, Blk.new _ _ _ _ rfl, (Kept.refl _ _).alloc _⟩ ?_
     rintro V ⟨g, eg, Bg, hkV⟩
     rw [eg]
     have hkw : Kept [] W V := keptTrans hkr hkV
     have BV := hkw.blk (by simp) B0
     have ⟨LV, CV, FV⟩ := BV
     have ⟨LG, CG, FG⟩ := Bg
     have hBV := hkw.below hB hB.size (by simp)
     clear CR FR h1 h2 h3 h4 eg
     have hstep : Hid (Sp.callB ns cl f ⟨ea, eb, ek, ec⟩ = false → ∀ x, x < j + 1 → Sp.callB ns cl f (ge es x) = false) := fun h0 x hx => by
       rcases Nat.lt_or_ge x j with h9 | h9
       · exact hno.out x h9
       · obtain rfl : x = j := by omega
         rw [HEe.out]; exact h0
     have hyes : Hid (Sp.callB ns cl f ⟨ea, eb, ek, ec⟩ = true → Sp.callsB ns es cl f = true) := fun h0 => Sp.calls_hit (by rw [HLe.out]; exact hlt) (by rw [HEe.out]; exact h0)
     by_cases e1 : ek = 2
     · have e1' : (ek == 2) = true := by simpa using e1
       by_cases e2 : ea = cl
       · have e2' : (ea == cl) = true := by simpa using e2
         by_cases e3 : 0 ≤ eb
         · have e3' : decide (0 ≤ eb) = true := by simpa using e3
           by_cases e4 : eb < (n1 : Int)
           · have e4' : decide (eb < (n1 : Int)) = true := by simpa using e4
             obtain ⟨x, rfl⟩ := Int.eq_ofNat_of_zero_le e3
             have hx : x < n1 := by omega
             obtain ⟨b', o', rfl, hl', hc'⟩ := (HW.out.kept hkw).2 (by omega)
             obtain ⟨g1, g2, g3⟩ := hc' x hx
             clear hc' g3
             by_cases e5 : (gn ns x).f = f
             · have e5' : ((gn ns x).f == f) = true := by simpa using e5
               by_cases e6 : (gn ns x).k = 1
               · have e6' : ((gn ns x).k == 1) = true := by simpa using e6
                 have hfin := Lib.hid (hyes.out (by simp [Sp.callB, e1, e2, e5, e6, HL.out, hx]))
                 clear e1 e2 e5 e6
                 go_wp2_with fail
                 go_ret
                 exact ⟨ret_bool hfin.out.symm, hBV⟩
               · have e6' : ((gn ns x).k == 1) = false := by simpa using e6
                 have hfin := Lib.hid (hstep.out (by simp [Sp.callB, e6]))
                 clear e1 e2 e5 e6
                 go_wp2_with fail
                 exact ⟨⟨j + 1, by omega, by go_num, hkw, hfin⟩, by simp [intOf]; omega⟩
             · have e5' : ((gn ns x).f == f) = false := by simpa using e5
               have hfin := Lib.hid (hstep.out (by simp [Sp.callB, e5]))
               clear e1 e2 e5
               go_wp2_with fail
               exact ⟨⟨j + 1, by omega, by go_num, hkw, hfin⟩, by simp [intOf]; omega⟩
           · have e4' : decide (eb < (n1 : Int)) = false := by simpa using e4
             have hfin := Lib.hid (hstep.out (by simp [Sp.callB, HL.out, e4]))
             clear e1 e2
             go_wp2_with fail
             exact ⟨⟨j + 1, by omega, by go_num, hkw, hfin⟩, by simp [intOf]; omega⟩
         · have e3' : decide (0 ≤ eb) = false := by simpa using e3
           have hfin := Lib.hid (hstep.out (by simp [Sp.callB, e3]))
           clear e1 e2
           go_wp2_with fail
           exact ⟨⟨j + 1, by omega, by go_num, hkw, hfin⟩, by simp [intOf]; omega⟩
       · have e2' : (ea == cl) = false := by simpa using e2
         have hfin := Lib.hid (hstep.out (by simp [Sp.callB, e2]))
         clear e1 e2
         go_wp2_with fail
         exact ⟨⟨j + 1, by omega, by go_num, hkw, hfin⟩, by simp [intOf]; omega⟩
     · have e1' : (ek == 2) = false := by simpa using e1
       have hfin := Lib.hid (hstep.out (by simp [Sp.callB, e1]))
       clear e1
       go_wp2_with fail
       exact ⟨⟨j + 1, by omega, by go_num, hkw, hfin⟩, by simp [intOf]; omega⟩
   · go_wp2_with fail
     go_ret
     exact ⟨ret_bool (Sp.calls_miss (fun x hx => hno.out x (by rw [HLe.out] at hx; omega))).symm, hkr.below hB hB.size (by simp)⟩
end Go.Proofs.YtincpmdldpakkaaGreatDoor
