/- Texts: Ec Ed Ba. -/
import Derived.Test.YtincpmdldpakkaaDoorCs07
import Derived.Test.YtincpmdldpakkaaDoorCs05
import Derived.IntWalk
namespace Go.Df
open Go.RowKit
theorem Sp.ordP_ge (a b : Sp.Xp) : decide (0 ≤ Sp.orL [Sp.cmpI a.i b.i, Sp.cmpI a.o b.o]) = !Sp.lessP a b := by
  unfold Sp.lessP
  rw [Sp.or_cmp, Sp.or_last]
  split <;> rfl
theorem two_ints (w : World) (x y : Int) (t : TypeId) (b : Nat) (hb : b = w.heap.size) : Ints (w.alloc (.cells #[.int .i64 x, .int .i64 y] t)) (some ⟨b, 0, none⟩) 2 [x, y] := by
  subst hb
  refine ⟨rfl, fun _ => ⟨_, _, rfl, by simp, fun i hi => ?_⟩⟩
  rw [World.cell?_alloc_new, Nat.zero_add]
  match i, hi with
  | 0, _ => rfl
  | 1, _ => rfl
structure Gv (w : World) : Prop where
  c0 : w.cell? ⟨0, 0, none⟩ = some (.int .i64 2)
  c1 : w.cell? ⟨0, 1, none⟩ = some (.int .i64 0)
  c2 : w.cell? ⟨0, 2, none⟩ = some (.int .i64 0)
  lt : 0 < w.heap.size
theorem Gv.later {w w' : World} (h : Gv w) (hb : Below w.heap.size w w') : Gv w' := ⟨(hb.cell (p := ⟨0, _, none⟩) h.lt).trans h.c0, (hb.cell (p := ⟨0, _, none⟩) h.lt).trans h.c1, (hb.cell (p := ⟨0, _, none⟩) h.lt).trans h.c2, Nat.lt_of_lt_of_le h.lt hb.size⟩
end Go.Df
namespace Go.Proofs.YtincpmdldpakkaaDoor
open Go.RowKit Go.Df
attribute [local go_sem ↓] Go.wp_at_zero Go.wp_at_succ
set_option maxRecDepth 100000 in
set_option maxHeartbeats 4000000 in
theorem cpairs_any (A : Option Addr) (n c : Nat) (F : Int) (l : List Sp.Xp) (w : World) (hp : Xps w A n l) (hgv : Gv w) :
    Calls Tryd.prog 20 #[.slice A n c, .int .i64 F] w fun e w' => e = .returned (.int .i64 (Sp.pairsErr F l)) ∧ Below w.heap.size w w' := by
  have HP := Lib.hid hp
  have HGV := Lib.hid hgv
  have HL := Lib.hid hp.1
  clear hp hgv
  by_cases t1 : 8192 < n
  · have d1 : decide ((8192 : Int) < n) = true := by simp; omega
    go_enter Tryd.func20, Tryd.ntmps20
    go_wp2_with fail
    go_ret
    exact ⟨ret_int (by unfold Sp.pairsErr; rw [HL.out, if_pos (by omega)]), Below.refl _ _⟩
  have d1 : decide ((8192 : Int) < n) = false := by simp; omega
  have h8 : Hid (l.length ≤ 8192) := by show _ ≤ _; rw [HL.out]; omega
  go_enter Tryd.func20, Tryd.ntmps20
  go_wp2_with fail
  go_loopw [13] (fun i wr => ∃ j : Nat, j ≤ n ∧ i = .int .i64 j ∧ Kept [] w wr ∧ Hid (∀ x, x < j → Sp.pairErr F l x = 0)) (fun i _ => n - (intOf i).toNat)
  case atStart => exact ⟨0, Nat.zero_le _, rfl, Kept.refl _ _, Lib.hid (fun j hj => absurd hj (by omega))⟩
  case round =>
    obtain ⟨j, hj, rfl, hkr, hno⟩ := hrel
    have hBr := hkr.toBelow
    by_cases hlt : j < n
    · obtain ⟨b, o, rfl, hl, hc⟩ := (HP.out.later hBr).2 (by omega)
      obtain ⟨h1, h2, h3, h4, h5⟩ := hc j hlt
      have HC := Lib.hid hc
      have LB := Lib.hid hl
      clear hc
      obtain ⟨xi, xo, xk, xb, xc, en⟩ : ∃ xi xo xk xb xc, Sp.gx l j = ⟨xi, xo, xk, xb, xc⟩ := ⟨_, _, _, _, _, rfl⟩
      rw [en] at h1 h2 h3 h4 h5
      have HE := Lib.hid en
      clear en
      go_upto_region 6 with fail
      refine wp_named (fun V => ∃ g, wr.heap.size = g ∧ Blk V g [.int .i64 xi, .int .i64 xo, .int .i64 xk, .int .i64 xb, .int .i64 xc] ∧ Kept [] wr V) ⟨_, rfl, Blk.new _ _ _ _ rfl, (Kept.refl _ _).alloc _⟩ ?_
      rintro V ⟨g, eg, Bg, hkV⟩
      rw [eg]
      have hkw : Kept [] w V := keptTrans hkr hkV
      have ⟨LG, CG, FG⟩ := Bg
      have hBV := hkw.toBelow
      clear h1 h2 h3 h4 h5 eg
      have hbad : Hid (∀ e, Sp.pairErr F l j = e → e ≠ 0 → Sp.pairsErr F l = e) := fun e h1 h2 => Sp.pairs_hit h8.out hno.out (by rw [HL.out]; exact hlt) h1 h2
      have hstep : Hid (Sp.pairErr F l j = 0 → ∀ x, x < j + 1 → Sp.pairErr F l x = 0) := fun h0 x hx => by
        rcases Nat.lt_or_ge x j with h9 | h9
        · exact hno.out x h9
        · obtain rfl : x = j := by omega
          exact h0
      have HEr : Hid (Sp.pairErr F l j = if xi < 0 ∨ F ≤ xi ∨ xo < 0 ∨ F ≤ xo then 4 else if 0 < j ∧ Sp.lessP (Sp.gx l (j - 1)) ⟨xi, xo, xk, xb, xc⟩ = false then 13 else Sp.xerr xk xb xc) := by
        show _ = _
        unfold Sp.pairErr
        rw [HE.out]
      by_cases r0 : xi < 0
      · have z : decide (xi < 0) = true := by simpa using r0
        have hE := Lib.hid (hbad.out 4 (by rw [HEr.out, if_pos (by omega)]) (by omega))
        go_wp2_with fail
        go_ret
        exact ⟨ret_int hE.out.symm, hBV⟩
      have z0 : decide (xi < 0) = false := by simpa using r0
      by_cases r1 : F ≤ xi
      · have z : decide (F ≤ xi) = true := by simpa using r1
        have hE := Lib.hid (hbad.out 4 (by rw [HEr.out, if_pos (by omega)]) (by omega))
        go_wp2_with fail
        go_ret
        exact ⟨ret_int hE.out.symm, hBV⟩
      have z1 : decide (F ≤ xi) = false := by simpa using r1
      by_cases r2 : xo < 0
      · have z : decide (xo < 0) = true := by simpa using r2
        have hE := Lib.hid (hbad.out 4 (by rw [HEr.out, if_pos (by omega)]) (by omega))
        go_wp2_with fail
        go_ret
        exact ⟨ret_int hE.out.symm, hBV⟩
      have z2 : decide (xo < 0) = false := by simpa using r2
      by_cases r3 : F ≤ xo
      · have z : decide (F ≤ xo) = true := by simpa using r3
        have hE := Lib.hid (hbad.out 4 (by rw [HEr.out, if_pos (by omega)]) (by omega))
        go_wp2_with fail
        go_ret
        exact ⟨ret_int hE.out.symm, hBV⟩
      have z3 : decide (F ≤ xo) = false := by simpa using r3
      have HEy : Hid (Sp.pairErr F l j = if 0 < j ∧ Sp.lessP (Sp.gx l (j - 1)) ⟨xi, xo, xk, xb, xc⟩ = false then 13 else Sp.xerr xk xb xc) := by
        show _ = _
        rw [HEr.out, if_neg (by omega)]
      clear HEr r0 r1 r2 r3
      by_cases hj0 : j = 0
      · have y1 : decide (0 < j) = false := by simp; omega
        have y2 : decide ((0 : Int) < (j : Int)) = false := by simp; omega
        have HEz : Hid (Sp.pairErr F l j = Sp.xerr xk xb xc) := by show _ = _; rw [HEy.out, if_neg (by omega)]
        clear hj0
        go_upto_region 8 with fail
        go_quiet (fail)
        go_wp2_with fail
        refine (xcheck_any xk xb xc _).mono ?_
        rintro e w5 ⟨rfl, hb5⟩
        have hk5 : Kept [] w w5 := (hkw.drewN _).call hb5
        by_cases hx0 : Sp.xerr xk xb xc = 0
        · rw [hx0]
          have hfin := Lib.hid (hstep.out (by rw [HEz.out, hx0]))
          clear hx0
          go_wp2_with fail
          exact ⟨⟨j + 1, by omega, by go_num, hk5, hfin⟩, by simp [intOf]; omega⟩
        · have hE := Lib.hid (hbad.out _ HEz.out hx0)
          have hx0' : (Sp.xerr xk xb xc != 0) = true := by simpa using hx0
          clear hx0
          go_wp2_with fail
          go_ret
          exact ⟨ret_int hE.out.symm, hk5.toBelow⟩
      have y1 : decide (0 < j) = true := by simp; omega
      have y2 : decide ((0 : Int) < (j : Int)) = true := by simp; omega
      have y3 : IntKind.i64.wrap ((j : Int) - 1) = (j : Int) - 1 := IntWalk.i64_in _ (by omega)
      have y4 : (0 : Int) ≤ (j : Int) - 1 := by omega
      have y5 : ((j : Int) - 1).toNat = j - 1 := by omega
      have y6 : (j : Int) - 1 < (n : Int) := by omega
      have y7 : 0 < j := by omega
      have y8 : 1 ≤ j := by omega
      have y9 : (1 : Int) ≤ (j : Int) := by omega
      have y10 : j ≤ n := by omega
      have y11 : j < n + 1 := by omega
      have y12 : (j : Int) < (n : Int) + 1 := by omega
      have y13 : (j : Int) ≤ (n : Int) := by omega
      obtain ⟨p1, p2, -, -, -⟩ := HC.out (j - 1) (by omega)
      obtain ⟨pi, po, pk, pb, pc, ep⟩ : ∃ pi po pk pb pc, Sp.gx l (j - 1) = ⟨pi, po, pk, pb, pc⟩ := ⟨_, _, _, _, _, rfl⟩
      rw [ep] at p1 p2
      have q1 : V.cell? ⟨b, o + (j - 1) * 5, none⟩ = some (.int .i64 pi) := (hkV.cell b _ LB.out (by simp)).trans p1
      have q2 : V.cell? ⟨b, o + (j - 1) * 5 + 1, none⟩ = some (.int .i64 po) := (hkV.cell b _ LB.out (by simp)).trans p2
      have hbV : b < V.heap.size := Nat.lt_of_lt_of_le LB.out hkV.size
      have HEx : Hid (Sp.pairErr F l j = if Sp.lessP ⟨pi, po, pk, pb, pc⟩ ⟨xi, xo, xk, xb, xc⟩ = false then 13 else Sp.xerr xk xb xc) := by
        show _ = _
        rw [HEy.out, ep]
        simp [y7]
      clear p1 p2 ep hj0
      go_upto_region 8 with fail
      go_cut [62] (fun s wx => s = .bool (!Sp.lessP ⟨pi, po, pk, pb, pc⟩ ⟨xi, xo, xk, xb, xc⟩) ∧ Kept [] V wx)
      case first =>
        go_region_held3 (fun w' => SX0 V w') (exact kp0)
          (first | (go_at_call 23; refine (compare_any _ _ _).mono ?_; rintro e w1 ⟨rfl, rfl⟩) | (go_at_call 22; refine (or_any _ _ _ [Sp.cmpI pi xi, Sp.cmpI po xo] _ (by first | exact two_ints _ _ _ _ _ (by first | rfl | simp) | exact Ints.drew (two_ints _ _ _ _ _ (by first | rfl | simp))) (by omega) (by omega)).mono ?_; rintro e w2 ⟨rfl, rfl⟩))
        all_goals
          go_wp2_with fail
          go_meet
          refine ⟨congrArg Value.bool (Sp.ordP_ge ⟨pi, po, pk, pb, pc⟩ ⟨xi, xo, xk, xb, xc⟩), ?_⟩
          (exact kpt0)
      case rest =>
        obtain ⟨rfl, hkc⟩ := hcut
        have hkwc : Kept [] w wc := keptTrans hkw hkc
        have ⟨LC, CC, FC⟩ := hkc.blk (by simp) Bg
        clear CG FG q1 q2
        by_cases hles : Sp.lessP ⟨pi, po, pk, pb, pc⟩ ⟨xi, xo, xk, xb, xc⟩ = true
        · rw [hles]
          have HEz : Hid (Sp.pairErr F l j = Sp.xerr xk xb xc) := by show _ = _; rw [HEx.out, hles, if_neg (by simp)]
          clear hles
          go_wp2_with fail
          refine (xcheck_any xk xb xc _).mono ?_
          rintro e w5 ⟨rfl, hb5⟩
          have hk5 : Kept [] w w5 := (hkwc).call hb5
          by_cases hx0 : Sp.xerr xk xb xc = 0
          · rw [hx0]
            have hfin := Lib.hid (hstep.out (by rw [HEz.out, hx0]))
            clear hx0
            go_wp2_with fail
            exact ⟨⟨j + 1, by omega, by go_num, hk5, hfin⟩, by simp [intOf]; omega⟩
          · have hE := Lib.hid (hbad.out _ HEz.out hx0)
            have hx0' : (Sp.xerr xk xb xc != 0) = true := by simpa using hx0
            clear hx0
            go_wp2_with fail
            go_ret
            exact ⟨ret_int hE.out.symm, hk5.toBelow⟩
        · rw [Bool.not_eq_true] at hles
          rw [hles]
          have hE := Lib.hid (hbad.out 13 (by rw [HEx.out, hles, if_pos rfl]) (by omega))
          clear hles
          go_wp2_with fail
          go_ret
          exact ⟨ret_int hE.out.symm, hkwc.toBelow⟩
    · obtain rfl : j = n := by omega
      have hall : Hid (∀ x, x < l.length → Sp.pairErr F l x = 0) := fun x hx => hno.out x (by rw [HL.out] at hx; exact hx)
      have HZ := Lib.hid (Sp.pairs_end h8.out hall.out)
      obtain ⟨gv0, gv1, gv2, gvl⟩ := HGV.out.later hBr
      clear hno hlt
      by_cases hn0 : j = 0
      · have k1 : ((j : Int) == 0) = true := by simp; omega
        have k2 : (j == 0) = true := by simp; omega
        have hE : Hid (Sp.pairsErr F l = 1) := by show _ = _; rw [HZ.out, if_pos (.inl (by rw [HL.out]; exact hn0))]
        have HN0 := Lib.hid hn0
        clear hn0
        go_upto_region 14 with fail
        go_quiet (fail)
        go_wp2_with fail
        go_ret
        exact ⟨ret_int hE.out.symm, (hkr.drewN _).toBelow⟩
      · have k1 : ((j : Int) == 0) = false := by simp; omega
        have k2 : (j == 0) = false := by simp; omega
        obtain ⟨b, o, rfl, hl, hc⟩ := (HP.out.later hBr).2 (by omega)
        obtain ⟨h1, h2, h3, h4, h5⟩ := hc 0 (by omega)
        simp only [Nat.zero_mul, Nat.add_zero] at h1 h2 h3 h4 h5
        obtain ⟨xi, xo, xk, xb, xc, en⟩ : ∃ xi xo xk xb xc, Sp.gx l 0 = ⟨xi, xo, xk, xb, xc⟩ := ⟨_, _, _, _, _, rfl⟩
        rw [en] at h1 h2 h3 h4 h5
        have hjp : 0 < j := by omega
        have HE : Hid (Sp.pairsErr F l = if (⟨xi, xo, xk, xb, xc⟩ : Sp.Xp) ≠ ⟨0, 0, 2, 0, 0⟩ then 1 else 0) := by
          show _ = _
          rw [HZ.out, en, HL.out]
          simp [hn0]
        clear en hc hn0
        by_cases hq : (⟨xi, xo, xk, xb, xc⟩ : Sp.Xp) = ⟨0, 0, 2, 0, 0⟩
        · obtain ⟨rfl, rfl, rfl, rfl, rfl⟩ : xi = 0 ∧ xo = 0 ∧ xk = 2 ∧ xb = 0 ∧ xc = 0 := by simpa using hq
          have hE := Lib.hid (HE.out.trans (if_neg (not_not_intro rfl)))
          clear hq
          go_upto_region 14 with fail
          go_quiet (fail)
          go_wp2_with fail
          go_ret
          exact ⟨ret_int hE.out.symm, (hkr.drewN _).toBelow⟩
        · have hE := Lib.hid (HE.out.trans (if_pos hq))
          have HQ := Lib.hid hq
          clear hq
          by_cases exi : xi = 0
          case neg =>
            have fxi : (xi == 0) = false := by simpa using exi
            have fxi' : (xi != 0) = true := by simpa using exi
            clear exi
            go_upto_region 14 with fail
            go_quiet (fail)
            go_wp2_with fail
            all_goals
              go_ret
              exact ⟨ret_int hE.out.symm, (hkr.drewN _).toBelow⟩
          subst exi
          by_cases exo : xo = 0
          case neg =>
            have fxo : (xo == 0) = false := by simpa using exo
            have fxo' : (xo != 0) = true := by simpa using exo
            clear exo
            go_upto_region 14 with fail
            go_quiet (fail)
            go_wp2_with fail
            all_goals
              go_ret
              exact ⟨ret_int hE.out.symm, (hkr.drewN _).toBelow⟩
          subst exo
          by_cases exk : xk = 2
          case neg =>
            have fxk : (xk == 2) = false := by simpa using exk
            have fxk' : (xk != 2) = true := by simpa using exk
            clear exk
            go_upto_region 14 with fail
            go_quiet (fail)
            go_wp2_with fail
            all_goals
              go_ret
              exact ⟨ret_int hE.out.symm, (hkr.drewN _).toBelow⟩
          subst exk
          by_cases exb : xb = 0
          case neg =>
            have fxb : (xb == 0) = false := by simpa using exb
            have fxb' : (xb != 0) = true := by simpa using exb
            clear exb
            go_upto_region 14 with fail
            go_quiet (fail)
            go_wp2_with fail
            all_goals
              go_ret
              exact ⟨ret_int hE.out.symm, (hkr.drewN _).toBelow⟩
          subst exb
          by_cases exc : xc = 0
          case neg =>
            have fxc : (xc == 0) = false := by simpa using exc
            have fxc' : (xc != 0) = true := by simpa using exc
            clear exc
            go_upto_region 14 with fail
            go_quiet (fail)
            go_wp2_with fail
            all_goals
              go_ret
              exact ⟨ret_int hE.out.symm, (hkr.drewN _).toBelow⟩
          subst exc
          exact absurd rfl HQ.out
end Go.Proofs.YtincpmdldpakkaaDoor
namespace Go.Df
open Go.RowKit
namespace Sp
def gl (ls : List (List Xp)) (i : Nat) : List Xp := ls.getD i []
def lessS (a b : Vs) : Bool := if a.n ≠ b.n then decide (a.n < b.n) else decide (a.f < b.f)
theorem ordS_ge (a b : Vs) : decide (0 ≤ orL [cmpI a.n b.n, cmpI a.f b.f]) = !lessS a b := by
  unfold lessS
  rw [or_cmp, or_last]
  split <;> rfl
def seedErr (N : Nat) (F : Int) (l : List Vs) (j : Nat) : Int :=
  if (gs l j).n < 0 ∨ (N : Int) ≤ (gs l j).n ∨ (gs l j).f < 1 ∨ F ≤ (gs l j).f then 4
  else if verr (gs l j).k (gs l j).v ≠ 0 then verr (gs l j).k (gs l j).v
  else if 0 < j ∧ lessS (gs l (j - 1)) (gs l j) = false then 13 else 0
def ideErr (ns : List Nd) (es : List Ed) (m F : Int) (ls : List (List Xp)) (sd : List Vs) : Int :=
  if superErr ns es m ≠ 0 then superErr ns es m else if F < 1 ∨ 1024 < F then 4 else if ls.length ≠ es.length then 20
  else if fe (fun i => pairsErr F (gl ls i)) 0 ls.length ≠ 0 then fe (fun i => pairsErr F (gl ls i)) 0 ls.length else fe (seedErr ns.length F sd) 0 sd.length
theorem ide_flow {ns : List Nd} {es : List Ed} {m F : Int} {ls : List (List Xp)} {sd : List Vs} {e : Int} {j : Nat} (h1 : superErr ns es m = 0) (h2 : ¬ (F < 1 ∨ 1024 < F)) (h3 : ls.length = es.length)
    (h : ∀ x, x < j → pairsErr F (gl ls x) = 0) (hj : j < ls.length) (he : pairsErr F (gl ls j) = e) (h0 : e ≠ 0) : ideErr ns es m F ls sd = e := by
  unfold ideErr
  rw [if_neg (not_not_intro h1), if_neg h2, if_neg (not_not_intro h3), fe_hit h hj he h0, if_pos h0]
theorem ide_seed {ns : List Nd} {es : List Ed} {m F : Int} {ls : List (List Xp)} {sd : List Vs} {e : Int} {j : Nat} (h1 : superErr ns es m = 0) (h2 : ¬ (F < 1 ∨ 1024 < F)) (h3 : ls.length = es.length)
    (h4 : ∀ x, x < ls.length → pairsErr F (gl ls x) = 0) (h : ∀ x, x < j → seedErr ns.length F sd x = 0) (hj : j < sd.length) (he : seedErr ns.length F sd j = e) (h0 : e ≠ 0) : ideErr ns es m F ls sd = e := by
  unfold ideErr
  rw [if_neg (not_not_intro h1), if_neg h2, if_neg (not_not_intro h3), fe_ok ls.length 0 (fun i _ hi => h4 i (by omega)), if_neg (by simp), fe_hit h hj he h0]
theorem ide_ok {ns : List Nd} {es : List Ed} {m F : Int} {ls : List (List Xp)} {sd : List Vs} (h1 : superErr ns es m = 0) (h2 : ¬ (F < 1 ∨ 1024 < F)) (h3 : ls.length = es.length)
    (h4 : ∀ x, x < ls.length → pairsErr F (gl ls x) = 0) (h : ∀ x, x < sd.length → seedErr ns.length F sd x = 0) : ideErr ns es m F ls sd = 0 := by
  unfold ideErr
  rw [if_neg (not_not_intro h1), if_neg h2, if_neg (not_not_intro h3), fe_ok ls.length 0 (fun i _ hi => h4 i (by omega)), if_neg (by simp), fe_ok sd.length 0 (fun i _ hi => h i (by omega))]
end Sp
theorem Xps.kept {w w' : World} {A : Option Addr} {n : Nat} {l : List Sp.Xp} (h : Xps w A n l) (hk : Kept [] w w') : Xps w' A n l := h.later hk.toBelow
def Fls (w : World) (A : Option Addr) (n : Nat) (ls : List (List Sp.Xp)) : Prop :=
  ls.length = n ∧ (0 < n → ∃ b o, A = some ⟨b, o, none⟩ ∧ b < w.heap.size ∧ ∀ i, i < n → ∃ Ai ni ci, w.cell? ⟨b, o + i, none⟩ = some (.slice Ai ni ci) ∧ Xps w Ai ni (Sp.gl ls i))
def Vss (w : World) (A : Option Addr) (n : Nat) (l : List Sp.Vs) : Prop :=
  l.length = n ∧ (0 < n → ∃ b o, A = some ⟨b, o, none⟩ ∧ b < w.heap.size ∧ ∀ i, i < n → w.cell? ⟨b, o + i * 4, none⟩ = some (.int .i64 (Sp.gs l i).n) ∧ w.cell? ⟨b, o + i * 4 + 1, none⟩ = some (.int .i64 (Sp.gs l i).f) ∧ w.cell? ⟨b, o + i * 4 + 2, none⟩ = some (.int .i64 (Sp.gs l i).k) ∧ w.cell? ⟨b, o + i * 4 + 3, none⟩ = some (.int .i64 (Sp.gs l i).v))
theorem Fls.later {w w' : World} {A : Option Addr} {n : Nat} {ls : List (List Sp.Xp)} (h : Fls w A n ls) (hb : Below w.heap.size w w') : Fls w' A n ls :=
  ⟨h.1, fun hn => by
    obtain ⟨b, o, e, hl, hc⟩ := h.2 hn
    refine ⟨b, o, e, Nat.lt_of_lt_of_le hl hb.size, fun i hi => ?_⟩
    obtain ⟨Ai, ni, ci, h1, h2⟩ := hc i hi
    exact ⟨Ai, ni, ci, (hb.cell (p := ⟨b, _, none⟩) hl).trans h1, h2.later hb⟩⟩
theorem Vss.later {w w' : World} {A : Option Addr} {n : Nat} {l : List Sp.Vs} (h : Vss w A n l) (hb : Below w.heap.size w w') : Vss w' A n l :=
  ⟨h.1, fun hn => by
    obtain ⟨b, o, e, hl, hc⟩ := h.2 hn
    exact ⟨b, o, e, Nat.lt_of_lt_of_le hl hb.size, fun i hi => ⟨(hb.cell (p := ⟨b, _, none⟩) hl).trans (hc i hi).1, (hb.cell (p := ⟨b, _, none⟩) hl).trans (hc i hi).2.1, (hb.cell (p := ⟨b, _, none⟩) hl).trans (hc i hi).2.2.1, (hb.cell (p := ⟨b, _, none⟩) hl).trans (hc i hi).2.2.2⟩⟩⟩
end Go.Df
namespace Go.Proofs.YtincpmdldpakkaaDoor.Xf
open Go.RowKit
structure X where
  k : Int
  b : Int
  c : Int
structure V where
  k : Int
  n : Int
instance : DecidableEq X := fun x y =>
  if h : x.k = y.k ∧ x.b = y.b ∧ x.c = y.c then isTrue (by cases x; cases y; simp_all) else isFalse (by rintro rfl; exact h ⟨rfl, rfl, rfl⟩)
instance : DecidableEq V := fun v w =>
  if h : v.k = w.k ∧ v.n = w.n then isTrue (by cases v; cases w; simp_all) else isFalse (by rintro rfl; exact h ⟨rfl, rfl⟩)
def check (x : X) : Int :=
  if x.k = 3 then 0 else if x.k = 0 ∨ x.k = 4 then (if x.c ≠ 0 then 1 else if x.b ≠ 0 then 1 else 0)
  else if x.k = 1 then (if x.b ≠ 0 then 1 else 0) else if x.k = 2 then (if x.c ≠ 0 then 1 else 0) else 12
def rcheck (x : X) : Int :=
  if x.k < 0 ∨ x.k > 4 then 12 else
  if (x.b ≠ 0 ∧ x.k ≠ 2 ∧ x.k ≠ 3) ∨ (x.c ≠ 0 ∧ x.k ≠ 1 ∧ x.k ≠ 3) then 1 else 0
def checkV (v : V) : Int := if v.k = 0 ∨ v.k = 2 then (if v.n ≠ 0 then 1 else 0) else if v.k = 1 then 0 else 12
def rcheckV (v : V) : Int := if v.k < 0 ∨ v.k > 2 then 12 else if v.n ≠ 0 ∧ v.k ≠ 1 then 1 else 0
def sum (v : V) (b : Int) : V := if v.k = 1 then ⟨1, wrap64 (v.n + b)⟩ else v
def meetV (v w : V) : V := if v = w ∨ w.k = 0 then v else if v.k = 0 then w else ⟨2, 0⟩
def rmeetV (v w : V) : V := if v.k = 0 then w else if w.k = 0 ∨ v = w then v else ⟨2, 0⟩
def apply (x : X) (v : V) : V :=
  if v.k = 0 then ⟨0, 0⟩ else if x.k = 0 then ⟨0, 0⟩ else if x.k = 1 then ⟨1, x.c⟩ else if x.k = 2 then sum v x.b
  else if x.k = 3 then meetV (sum v x.b) ⟨1, x.c⟩ else ⟨2, 0⟩
def rapply (x : X) (v : V) : V :=
  if v.k = 0 then v else if x.k = 0 then ⟨0, 0⟩ else if x.k = 1 then ⟨1, x.c⟩ else if x.k = 2 then sum v x.b
  else if x.k = 3 then rmeetV (sum v x.b) ⟨1, x.c⟩ else ⟨2, 0⟩
def shifted (x : X) (n : Int) : X :=
  if x.k = 1 then ⟨1, 0, wrap64 (x.c + n)⟩ else if x.k = 2 then ⟨2, wrap64 (x.b + n), 0⟩
  else if x.k = 3 then ⟨3, wrap64 (x.b + n), wrap64 (x.c + n)⟩ else ⟨4, 0, 0⟩
def compose (x y : X) : X :=
  if x.k = 0 ∨ y.k = 0 then ⟨0, 0, 0⟩ else if y.k = 1 then y else if y.k = 2 then shifted x y.b
  else if y.k = 3 then
    (let f := shifted x y.b
     if f.k = 2 then ⟨3, f.b, y.c⟩ else if f.k = 1 ∨ f.k = 3 then (if f.c = y.c then f else ⟨4, 0, 0⟩) else ⟨4, 0, 0⟩)
  else ⟨4, 0, 0⟩
def rcompose (x y : X) : X :=
  if x.k = 0 ∨ y.k = 0 then ⟨0, 0, 0⟩ else if y.k = 1 ∨ y.k = 4 then y else if x.k = 4 then x
  else if x.k = 1 then (let v := rapply y ⟨1, x.c⟩; if v.k = 1 then ⟨1, 0, v.n⟩ else ⟨4, 0, 0⟩)
  else if x.k = 2 then ⟨y.k, wrap64 (x.b + y.b), y.c⟩
  else (let v := rapply y ⟨1, x.c⟩; if v.k = 1 then ⟨3, wrap64 (x.b + y.b), v.n⟩ else ⟨4, 0, 0⟩)
def meet (x y : X) : X :=
  if x = y ∨ y.k = 0 then x else if x.k = 0 then y else if x.k = 4 ∨ y.k = 4 then ⟨4, 0, 0⟩
  else if x.k ≠ 1 ∧ y.k ≠ 1 ∧ y.b ≠ x.b then ⟨4, 0, 0⟩
  else if x.k ≠ 2 ∧ y.k ≠ 2 ∧ y.c ≠ x.c then ⟨4, 0, 0⟩
  else ⟨3, if y.k ≠ 1 then y.b else if x.k ≠ 1 then x.b else 0, if y.k ≠ 2 then y.c else if x.k ≠ 2 then x.c else 0⟩
def rmeet1 (x y : X) : X :=
  if x.k = 1 ∧ y.k = 2 then ⟨3, y.b, x.c⟩ else if x.k = 1 ∧ y.k = 3 ∧ x.c = y.c then y
  else if x.k = 2 ∧ y.k = 3 ∧ x.b = y.b then y else ⟨4, 0, 0⟩
def rmeet (x y : X) : X :=
  if x.k = 0 then y else if y.k = 0 ∨ x = y then x else if x.k > y.k then rmeet1 y x else rmeet1 x y
def below (v w : V) : Bool := w.k = 0 ∨ v.k = 2 ∨ v = w
def rbelow (v w : V) : Bool := v = w ∨ v.k = 2 ∨ w.k = 0
def steps (x : X) : Int := if x.k = 0 then 3 else if x.k = 1 ∨ x.k = 2 then 2 else if x.k = 3 then 1 else 0
theorem rmeet_swap {x y : X} (h : y.k < x.k) (hx : ¬ x.k = 0) (hy : ¬ y.k = 0) : rmeet y x = rmeet x y := by
  have e1 : ¬ y = x := by rintro rfl; omega
  have e2 : ¬ x = y := fun e => e1 e.symm
  have e3 : ¬ x.k < y.k := by omega
  simp [rmeet, hx, hy, e1, e2, e3, h]
theorem valid_cases {x : X} (h : rcheck x = 0) : x = ⟨0, 0, 0⟩ ∨ (∃ c, x = ⟨1, 0, c⟩) ∨ (∃ b, x = ⟨2, b, 0⟩) ∨ (∃ b c, x = ⟨3, b, c⟩) ∨ x = ⟨4, 0, 0⟩ := by
  obtain ⟨k, b, c⟩ := x
  simp only [rcheck] at h
  split at h
  · omega
  · split at h
    · omega
    · rename_i h1 h2
      simp only [not_or, not_and, Int.not_lt] at h1 h2
      obtain ⟨h1a, h1b⟩ := h1
      have hk : k = 0 ∨ k = 1 ∨ k = 2 ∨ k = 3 ∨ k = 4 := by omega
      rcases hk with rfl | rfl | rfl | rfl | rfl <;> simp_all
theorem validV_cases {v : V} (h : rcheckV v = 0) : v = ⟨0, 0⟩ ∨ (∃ n, v = ⟨1, n⟩) ∨ v = ⟨2, 0⟩ := by
  obtain ⟨k, n⟩ := v
  simp only [rcheckV] at h
  split at h
  · omega
  · split at h
    · omega
    · rename_i h1 h2
      simp only [not_or, not_and, Int.not_lt] at h1 h2
      obtain ⟨h1a, h1b⟩ := h1
      have hk : k = 0 ∨ k = 1 ∨ k = 2 := by omega
      rcases hk with rfl | rfl | rfl <;> simp_all
theorem wrap_add (a b : Int) : wrap64 (wrap64 a + b) = wrap64 (a + b) := by unfold wrap64; omega
theorem wrap_add' (a b : Int) : wrap64 (a + wrap64 b) = wrap64 (a + b) := by unfold wrap64; omega
theorem wrap_inj {a b n : Int} (ha : wrap64 a = a) (hb : wrap64 b = b) : wrap64 (a + n) = wrap64 (b + n) ↔ a = b := by
  unfold wrap64 at *
  constructor <;> intro h <;> omega
theorem meetV_eq {v w : V} (hv : rcheckV v = 0) (hw : rcheckV w = 0) : rmeetV v w = meetV v w := by
  rcases validV_cases hv with rfl | ⟨n, rfl⟩ | rfl <;> rcases validV_cases hw with rfl | ⟨m, rfl⟩ | rfl <;> simp [rmeetV, meetV]
theorem apply_eq {x : X} {v : V} (hx : rcheck x = 0) (hv : rcheckV v = 0) : rapply x v = apply x v := by
  rcases valid_cases hx with rfl | ⟨c, rfl⟩ | ⟨b, rfl⟩ | ⟨b, c, rfl⟩ | rfl <;> rcases validV_cases hv with rfl | ⟨n, rfl⟩ | rfl <;> simp [rapply, apply, sum, rmeetV, meetV]
theorem compose_eq {x y : X} (hx : rcheck x = 0) (hy : rcheck y = 0) : rcompose x y = compose x y := by
  rcases valid_cases hx with rfl | ⟨c, rfl⟩ | ⟨b, rfl⟩ | ⟨b, c, rfl⟩ | rfl <;> rcases valid_cases hy with rfl | ⟨c', rfl⟩ | ⟨b', rfl⟩ | ⟨b', c', rfl⟩ | rfl <;>
    simp [rcompose, compose, shifted, rapply, sum, rmeetV]
  all_goals (repeat' split) <;> simp_all
theorem meet_eq {x y : X} (hx : rcheck x = 0) (hy : rcheck y = 0) : rmeet x y = meet x y := by
  rcases valid_cases hx with rfl | ⟨c, rfl⟩ | ⟨b, rfl⟩ | ⟨b, c, rfl⟩ | rfl <;> rcases valid_cases hy with rfl | ⟨c', rfl⟩ | ⟨b', rfl⟩ | ⟨b', c', rfl⟩ | rfl <;>
    simp [rmeet, rmeet1, meet]
  all_goals grind
/- The lattice laws, on valid transformers whose numbers fit. -/
def fits (x : X) : Prop := wrap64 x.b = x.b ∧ wrap64 x.c = x.c
theorem check_compose {x y : X} (hx : rcheck x = 0) (hy : rcheck y = 0) : rcheck (compose x y) = 0 := by
  rcases valid_cases hx with rfl | ⟨c, rfl⟩ | ⟨b, rfl⟩ | ⟨b, c, rfl⟩ | rfl <;> rcases valid_cases hy with rfl | ⟨c', rfl⟩ | ⟨b', rfl⟩ | ⟨b', c', rfl⟩ | rfl <;>
    simp [compose, shifted]
  all_goals (repeat' split) <;> simp [rcheck]
theorem check_meet {x y : X} (hx : rcheck x = 0) (hy : rcheck y = 0) : rcheck (meet x y) = 0 := by
  rcases valid_cases hx with rfl | ⟨c, rfl⟩ | ⟨b, rfl⟩ | ⟨b, c, rfl⟩ | rfl <;> rcases valid_cases hy with rfl | ⟨c', rfl⟩ | ⟨b', rfl⟩ | ⟨b', c', rfl⟩ | rfl <;>
    simp [meet]
  all_goals (repeat' split) <;> simp [rcheck]
def add64 (a b : Int) : Int := wrap64 (a + b)
theorem add64_def (a b : Int) : wrap64 (a + b) = add64 a b := rfl
theorem add64_assoc (a b c : Int) : add64 (add64 a b) c = add64 a (add64 b c) := by unfold add64; rw [wrap_add, wrap_add', Int.add_assoc]
theorem add64_shift {a m n c : Int} (h : wrap64 c = c) : add64 a (add64 m n) = add64 c n ↔ add64 a m = c := by
  unfold add64
  rw [wrap_add']
  unfold wrap64 at *
  constructor <;> intro h' <;> omega
theorem add64_left {n a c : Int} (h : wrap64 a = a) (k : wrap64 c = c) : add64 n a = add64 n c ↔ a = c := by
  unfold add64 wrap64 at *
  constructor <;> intro h' <;> omega
set_option maxHeartbeats 2000000 in
theorem compose_assoc {x y z : X} (hx : rcheck x = 0) (hy : rcheck y = 0) (hz : rcheck z = 0) (fx : fits x) (fy : fits y) : compose (compose x y) z = compose x (compose y z) := by
  have W2 : ∀ a m n c, wrap64 c = c → (add64 a (add64 m n) = add64 c n ↔ add64 a m = c) := fun a m n c h => add64_shift h
  have W1 : ∀ a n c, wrap64 a = a → wrap64 c = c → (add64 a n = add64 c n ↔ a = c) := fun a n c h k => wrap_inj h k
  have W3 : ∀ a m n, add64 (add64 a m) n = add64 a (add64 m n) := add64_assoc
  rcases valid_cases hx with rfl | ⟨c, rfl⟩ | ⟨b, rfl⟩ | ⟨b, c, rfl⟩ | rfl <;> rcases valid_cases hy with rfl | ⟨c', rfl⟩ | ⟨b', rfl⟩ | ⟨b', c', rfl⟩ | rfl <;> rcases valid_cases hz with rfl | ⟨c2, rfl⟩ | ⟨b2, rfl⟩ | ⟨b2, c2, rfl⟩ | rfl <;>
    simp [compose, shifted, add64_def, add64_assoc]
  all_goals simp only [fits] at *
  all_goals grind
set_option maxHeartbeats 2000000 in
theorem meet_assoc {x y z : X} (hx : rcheck x = 0) (hy : rcheck y = 0) (hz : rcheck z = 0) : meet (meet x y) z = meet x (meet y z) := by
  have W2 : ∀ a m n c, wrap64 c = c → (add64 a (add64 m n) = add64 c n ↔ add64 a m = c) := fun a m n c h => add64_shift h
  have W1 : ∀ a n c, wrap64 a = a → wrap64 c = c → (add64 a n = add64 c n ↔ a = c) := fun a n c h k => wrap_inj h k
  have W3 : ∀ a m n, add64 (add64 a m) n = add64 a (add64 m n) := add64_assoc
  rcases valid_cases hx with rfl | ⟨c, rfl⟩ | ⟨b, rfl⟩ | ⟨b, c, rfl⟩ | rfl <;> rcases valid_cases hy with rfl | ⟨c', rfl⟩ | ⟨b', rfl⟩ | ⟨b', c', rfl⟩ | rfl <;> rcases valid_cases hz with rfl | ⟨c2, rfl⟩ | ⟨b2, rfl⟩ | ⟨b2, c2, rfl⟩ | rfl <;>
    simp [meet]
  all_goals grind
set_option maxHeartbeats 2000000 in
theorem compose_meet {x y z : X} (hx : rcheck x = 0) (hy : rcheck y = 0) (hz : rcheck z = 0) (fy : fits y) (fz : fits z) : compose x (meet y z) = meet (compose x y) (compose x z) := by
  have W2 : ∀ a m n c, wrap64 c = c → (add64 a (add64 m n) = add64 c n ↔ add64 a m = c) := fun a m n c h => add64_shift h
  have W1 : ∀ a n c, wrap64 a = a → wrap64 c = c → (add64 a n = add64 c n ↔ a = c) := fun a n c h k => wrap_inj h k
  have W4 : ∀ n a c, wrap64 a = a → wrap64 c = c → (add64 n a = add64 n c ↔ a = c) := fun n a c h k => add64_left h k
  have W3 : ∀ a m n, add64 (add64 a m) n = add64 a (add64 m n) := add64_assoc
  rcases valid_cases hx with rfl | ⟨c, rfl⟩ | ⟨b, rfl⟩ | ⟨b, c, rfl⟩ | rfl <;> rcases valid_cases hy with rfl | ⟨c', rfl⟩ | ⟨b', rfl⟩ | ⟨b', c', rfl⟩ | rfl <;> rcases valid_cases hz with rfl | ⟨c2, rfl⟩ | ⟨b2, rfl⟩ | ⟨b2, c2, rfl⟩ | rfl <;>
    simp [compose, shifted, meet, add64_def]
  all_goals simp only [fits] at *
  all_goals grind
set_option maxHeartbeats 2000000 in
theorem meet_compose {x y z : X} (hx : rcheck x = 0) (hy : rcheck y = 0) (hz : rcheck z = 0) (fx : fits x) (fy : fits y) : compose (meet x y) z = meet (compose x z) (compose y z) := by
  have W2 : ∀ a m n c, wrap64 c = c → (add64 a (add64 m n) = add64 c n ↔ add64 a m = c) := fun a m n c h => add64_shift h
  have W1 : ∀ a n c, wrap64 a = a → wrap64 c = c → (add64 a n = add64 c n ↔ a = c) := fun a n c h k => wrap_inj h k
  have W3 : ∀ a m n, add64 (add64 a m) n = add64 a (add64 m n) := add64_assoc
  rcases valid_cases hx with rfl | ⟨c, rfl⟩ | ⟨b, rfl⟩ | ⟨b, c, rfl⟩ | rfl <;> rcases valid_cases hy with rfl | ⟨c', rfl⟩ | ⟨b', rfl⟩ | ⟨b', c', rfl⟩ | rfl <;> rcases valid_cases hz with rfl | ⟨c2, rfl⟩ | ⟨b2, rfl⟩ | ⟨b2, c2, rfl⟩ | rfl <;>
    simp [compose, shifted, meet, add64_def]
  all_goals simp only [fits] at *
  all_goals grind
theorem meet_comm {x y : X} (hx : rcheck x = 0) (hy : rcheck y = 0) : meet x y = meet y x := by
  rcases valid_cases hx with rfl | ⟨c, rfl⟩ | ⟨b, rfl⟩ | ⟨b, c, rfl⟩ | rfl <;> rcases valid_cases hy with rfl | ⟨c', rfl⟩ | ⟨b', rfl⟩ | ⟨b', c', rfl⟩ | rfl <;> simp [meet]
  all_goals grind
theorem meet_self (x : X) : meet x x = x := by simp [meet]
theorem meet_top (x : X) : meet x ⟨0, 0, 0⟩ = x := by simp [meet]
theorem steps_meet {x y : X} (hx : rcheck x = 0) (hy : rcheck y = 0) : meet x y = x ∨ steps (meet x y) < steps x := by
  rcases valid_cases hx with rfl | ⟨c, rfl⟩ | ⟨b, rfl⟩ | ⟨b, c, rfl⟩ | rfl <;> rcases valid_cases hy with rfl | ⟨c', rfl⟩ | ⟨b', rfl⟩ | ⟨b', c', rfl⟩ | rfl <;> simp [meet]
  all_goals grind [steps]
theorem steps_nonneg (x : X) : 0 ≤ steps x := by unfold steps; repeat' split
                                                 all_goals omega
set_option maxHeartbeats 1000000 in
theorem apply_compose {x y : X} {v : V} (hx : rcheck x = 0) (hy : rcheck y = 0) (hv : rcheckV v = 0) (fx : fits x) : apply (compose x y) v = apply y (apply x v) := by
  have W2 : ∀ a m n c, wrap64 c = c → (add64 a (add64 m n) = add64 c n ↔ add64 a m = c) := fun a m n c h => add64_shift h
  have W3 : ∀ a m n, add64 (add64 a m) n = add64 a (add64 m n) := add64_assoc
  rcases valid_cases hx with rfl | ⟨c, rfl⟩ | ⟨b, rfl⟩ | ⟨b, c, rfl⟩ | rfl <;> rcases valid_cases hy with rfl | ⟨c', rfl⟩ | ⟨b', rfl⟩ | ⟨b', c', rfl⟩ | rfl <;> rcases validV_cases hv with rfl | ⟨n, rfl⟩ | rfl <;> simp [compose, shifted, apply, sum, meetV, add64_def, add64_assoc]
  all_goals simp only [fits] at *
  all_goals grind
set_option maxHeartbeats 1000000 in
theorem apply_meet {x y : X} {v : V} (hx : rcheck x = 0) (hy : rcheck y = 0) (hv : rcheckV v = 0) (fx : fits x) (fy : fits y) : apply (meet x y) v = meetV (apply x v) (apply y v) := by
  have W4 : ∀ n a c, wrap64 a = a → wrap64 c = c → (add64 n a = add64 n c ↔ a = c) := fun n a c h k => add64_left h k
  rcases valid_cases hx with rfl | ⟨c, rfl⟩ | ⟨b, rfl⟩ | ⟨b, c, rfl⟩ | rfl <;> rcases valid_cases hy with rfl | ⟨c', rfl⟩ | ⟨b', rfl⟩ | ⟨b', c', rfl⟩ | rfl <;> rcases validV_cases hv with rfl | ⟨n, rfl⟩ | rfl <;> simp [meet, apply, sum, meetV, add64_def]
  all_goals simp only [fits] at *
  all_goals grind
set_option maxHeartbeats 1000000 in
theorem apply_meetV {x : X} {v w : V} (hx : rcheck x = 0) (hv : rcheckV v = 0) (hw : rcheckV w = 0) (fv : wrap64 v.n = v.n) (fw : wrap64 w.n = w.n) : apply x (meetV v w) = meetV (apply x v) (apply x w) := by
  have W1 : ∀ a n c, wrap64 a = a → wrap64 c = c → (add64 a n = add64 c n ↔ a = c) := fun a n c h k => wrap_inj h k
  rcases valid_cases hx with rfl | ⟨c, rfl⟩ | ⟨b, rfl⟩ | ⟨b, c, rfl⟩ | rfl <;> rcases validV_cases hv with rfl | ⟨n, rfl⟩ | rfl <;> rcases validV_cases hw with rfl | ⟨m, rfl⟩ | rfl <;> simp [apply, sum, meetV, add64_def]
  all_goals grind
theorem check_apply {x : X} {v : V} (hx : rcheck x = 0) (hv : rcheckV v = 0) : rcheckV (apply x v) = 0 := by
  rcases valid_cases hx with rfl | ⟨c, rfl⟩ | ⟨b, rfl⟩ | ⟨b, c, rfl⟩ | rfl <;> rcases validV_cases hv with rfl | ⟨n, rfl⟩ | rfl <;> simp [apply, sum, meetV]
  all_goals (repeat' split) <;> simp [rcheckV]
end Go.Proofs.YtincpmdldpakkaaDoor.Xf
