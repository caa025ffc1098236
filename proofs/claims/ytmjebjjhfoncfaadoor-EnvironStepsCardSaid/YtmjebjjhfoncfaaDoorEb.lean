/- The contract of the reference's pairs. -/
import Derived.Test.YtmjebjjhfoncfaaDoorEa
namespace Go.Proofs.YtmjebjjhfoncfaaDoor
open Go.RowKit Go.Df
attribute [local go_sem ↓] Go.wp_at_zero Go.wp_at_succ

set_option maxRecDepth 100000 in
set_option maxHeartbeats 4000000 in
theorem rpairs_any (A : Option Addr) (n c : Nat) (F : Int) (l : List Sp.Xp) (w : World) (hp : Xps w A n l) :
    Calls Tryd.prog 30 #[.slice A n c, .int .i64 F] w fun e w' => e = .returned (.int .i64 (Sp.pairsErr F l)) ∧ Below w.heap.size w w' := by
  have HP := Lib.hid hp
  have HL := Lib.hid hp.1
  clear hp
  by_cases t1 : 8192 < n
  · have d1 : decide ((8192 : Int) < n) = true := by simp; omega
    go_enter Tryd.func30, Tryd.ntmps30
    go_wp2_with fail
    go_ret
    exact ⟨ret_int (by unfold Sp.pairsErr; rw [HL.out, if_pos (by omega)]), Below.refl _ _⟩
  have d1 : decide ((8192 : Int) < n) = false := by simp; omega
  have h8 : Hid (l.length ≤ 8192) := by show _ ≤ _; rw [HL.out]; omega
  go_enter Tryd.func30, Tryd.ntmps30
  go_wp2_with fail
  go_loopw [5] (fun i wr => ∃ j : Nat, j ≤ n ∧ i = .int .i64 j ∧ Kept [] w wr ∧ Hid (∀ x, x < j → Sp.pairErr F l x = 0)) (fun i _ => n - (intOf i).toNat)
  case atStart => exact ⟨0, Nat.zero_le _, rfl, Kept.refl _ _, Lib.hid (fun j hj => absurd hj (by omega))⟩
  case round =>
    obtain ⟨j, hj, rfl, hkr, hno⟩ := hrel
    have hBr := hkr.toBelow
    by_cases hlt : j < n
    · obtain ⟨b, o, rfl, hl, hc⟩ := (HP.out.later hBr).2 (by omega)
      obtain ⟨h1, h2, h3, h4, h5⟩ := hc j hlt
      have HC := Lib.hid hc
      have LB := Lib.hid hl
      clear hc
      obtain ⟨xi, xo, xk, xb, xc, en⟩ : ∃ xi xo xk xb xc, Sp.gx l j = ⟨xi, xo, xk, xb, xc⟩ := ⟨_, _, _, _, _, rfl⟩
      rw [en] at h1 h2 h3 h4 h5
      have HE := Lib.hid en
      clear en
      go_upto_region 7 with fail
      refine wp_named (fun V => ∃ g, wr.heap.size = g ∧ Blk V g [.int .i64 xi, .int .i64 xo, .int .i64 xk, .int .i64 xb, .int .i64 xc] ∧ Kept [] wr V) ⟨_, rfl, Blk.new _ _ _ _ rfl, (Kept.refl _ _).alloc _⟩ ?_
      rintro V ⟨g, eg, Bg, hkV⟩
      rw [eg]
      have hkw : Kept [] w V := keptTrans hkr hkV
      have ⟨LG, CG, FG⟩ := Bg
      have hBV := hkw.toBelow
      clear h1 h2 h3 h4 h5 eg
      have hbad : Hid (∀ e, Sp.pairErr F l j = e → e ≠ 0 → Sp.pairsErr F l = e) := fun e h1 h2 => Sp.pairs_hit h8.out hno.out (by rw [HL.out]; exact hlt) h1 h2
      have hstep : Hid (Sp.pairErr F l j = 0 → ∀ x, x < j + 1 → Sp.pairErr F l x = 0) := fun h0 x hx => by
        rcases Nat.lt_or_ge x j with h9 | h9
        · exact hno.out x h9
        · obtain rfl : x = j := by omega
          exact h0
      have HEr : Hid (Sp.pairErr F l j = if xi < 0 ∨ F ≤ xi ∨ xo < 0 ∨ F ≤ xo then 4 else if 0 < j ∧ Sp.lessP (Sp.gx l (j - 1)) ⟨xi, xo, xk, xb, xc⟩ = false then 13 else Sp.xerr xk xb xc) := by
        show _ = _
        unfold Sp.pairErr
        rw [HE.out]
      by_cases r0 : xi < 0
      · have z : decide (xi < 0) = true := by simpa using r0
        have hE := Lib.hid (hbad.out 4 (by rw [HEr.out, if_pos (by omega)]) (by omega))
        go_wp2_with fail
        go_ret
        exact ⟨ret_int hE.out.symm, hBV⟩
      have z0 : decide (xi < 0) = false := by simpa using r0
      by_cases r1 : F ≤ xi
      · have z : decide (F ≤ xi) = true := by simpa using r1
        have hE := Lib.hid (hbad.out 4 (by rw [HEr.out, if_pos (by omega)]) (by omega))
        go_wp2_with fail
        go_ret
        exact ⟨ret_int hE.out.symm, hBV⟩
      have z1 : decide (F ≤ xi) = false := by simpa using r1
      by_cases r2 : xo < 0
      · have z : decide (xo < 0) = true := by simpa using r2
        have hE := Lib.hid (hbad.out 4 (by rw [HEr.out, if_pos (by omega)]) (by omega))
        go_wp2_with fail
        go_ret
        exact ⟨ret_int hE.out.symm, hBV⟩
      have z2 : decide (xo < 0) = false := by simpa using r2
      by_cases r3 : F ≤ xo
      · have z : decide (F ≤ xo) = true := by simpa using r3
        have hE := Lib.hid (hbad.out 4 (by rw [HEr.out, if_pos (by omega)]) (by omega))
        go_wp2_with fail
        go_ret
        exact ⟨ret_int hE.out.symm, hBV⟩
      have z3 : decide (F ≤ xo) = false := by simpa using r3
      have HEy : Hid (Sp.pairErr F l j = if 0 < j ∧ Sp.lessP (Sp.gx l (j - 1)) ⟨xi, xo, xk, xb, xc⟩ = false then 13 else Sp.xerr xk xb xc) := by
        show _ = _
        rw [HEr.out, if_neg (by omega)]
      clear HEr r0 r1 r2 r3
      by_cases hj0 : j = 0
      · have y1 : decide (0 < j) = false := by simp; omega
        have y2 : decide ((0 : Int) < (j : Int)) = false := by simp; omega
        have HEz : Hid (Sp.pairErr F l j = Sp.xerr xk xb xc) := by show _ = _; rw [HEy.out, if_neg (by omega)]
        clear hj0
        go_upto_region 9 with fail
        go_quiet (fail)
        go_wp2_with fail
        refine (rxcheck_any xk xb xc _).mono ?_
        rintro e w5 ⟨rfl, hb5⟩
        have hk5 : Kept [] w w5 := (hkw.drewN _).call hb5
        by_cases hx0 : Sp.xerr xk xb xc = 0
        · rw [hx0]
          have hfin := Lib.hid (hstep.out (by rw [HEz.out, hx0]))
          clear hx0
          go_wp2_with fail
          exact ⟨⟨j + 1, by omega, by go_num, hk5, hfin⟩, by simp [intOf]; omega⟩
        · have hE := Lib.hid (hbad.out _ HEz.out hx0)
          have hx0' : (Sp.xerr xk xb xc != 0) = true := by simpa using hx0
          clear hx0
          go_wp2_with fail
          go_ret
          exact ⟨ret_int hE.out.symm, hk5.toBelow⟩
      have y1 : decide (0 < j) = true := by simp; omega
      have y2 : decide ((0 : Int) < (j : Int)) = true := by simp; omega
      have y3 : IntKind.i64.wrap ((j : Int) - 1) = (j : Int) - 1 := IntWalk.i64_in _ (by omega)
      have y4 : (0 : Int) ≤ (j : Int) - 1 := by omega
      have y5 : ((j : Int) - 1).toNat = j - 1 := by omega
      have y6 : (j : Int) - 1 < (n : Int) := by omega
      have y7 : 0 < j := by omega
      have y8 : 1 ≤ j := by omega
      have y9 : (1 : Int) ≤ (j : Int) := by omega
      have y10 : j ≤ n := by omega
      have y11 : j < n + 1 := by omega
      have y12 : (j : Int) < (n : Int) + 1 := by omega
      have y13 : (j : Int) ≤ (n : Int) := by omega
      obtain ⟨p1, p2, -, -, -⟩ := HC.out (j - 1) (by omega)
      obtain ⟨pi, po, pk, pb, pc, ep⟩ : ∃ pi po pk pb pc, Sp.gx l (j - 1) = ⟨pi, po, pk, pb, pc⟩ := ⟨_, _, _, _, _, rfl⟩
      rw [ep] at p1 p2
      have q1 : V.cell? ⟨b, o + (j - 1) * 5, none⟩ = some (.int .i64 pi) := (hkV.cell b _ LB.out (by simp)).trans p1
      have q2 : V.cell? ⟨b, o + (j - 1) * 5 + 1, none⟩ = some (.int .i64 po) := (hkV.cell b _ LB.out (by simp)).trans p2
      have hbV : b < V.heap.size := Nat.lt_of_lt_of_le LB.out hkV.size
      have HEx : Hid (Sp.pairErr F l j = if Sp.lessP ⟨pi, po, pk, pb, pc⟩ ⟨xi, xo, xk, xb, xc⟩ = false then 13 else Sp.xerr xk xb xc) := by
        show _ = _
        rw [HEy.out, ep]
        simp [y7]
      clear p1 p2 ep hj0
      by_cases s1 : xi < pi
      · have u1 : decide (xi < pi) = true := by simpa using s1
        have hE := Lib.hid (hbad.out 13 (by rw [HEx.out, if_pos (by unfold Sp.lessP; simp only; rw [if_pos (by omega)]; simp; omega)]) (by omega))
        clear s1
        go_upto_region 9 with fail
        go_quiet (fail)
        go_wp2_with fail
        go_ret
        exact ⟨ret_int hE.out.symm, (hkw.drewN _).toBelow⟩
      have u1 : decide (xi < pi) = false := by simpa using s1
      by_cases s2 : pi = xi
      · have u2 : (pi == xi) = true := by simpa using s2
        by_cases s3 : xo ≤ po
        · have u3 : decide (xo ≤ po) = true := by simpa using s3
          have hE := Lib.hid (hbad.out 13 (by rw [HEx.out, if_pos (by unfold Sp.lessP; simp only; rw [if_neg (by omega)]; simp; omega)]) (by omega))
          clear s1 s2
          go_upto_region 9 with fail
          go_quiet (fail)
          go_wp2_with fail
          go_ret
          exact ⟨ret_int hE.out.symm, (hkw.drewN _).toBelow⟩
        · have u3 : decide (xo ≤ po) = false := by simpa using s3
          have HEz : Hid (Sp.pairErr F l j = Sp.xerr xk xb xc) := by show _ = _; rw [HEx.out, if_neg (by unfold Sp.lessP; simp only; rw [if_neg (by omega)]; simp; omega)]
          clear s1 s2
          go_upto_region 9 with fail
          go_quiet (fail)
          go_wp2_with fail
          refine (rxcheck_any xk xb xc _).mono ?_
          rintro e w5 ⟨rfl, hb5⟩
          have hk5 : Kept [] w w5 := (hkw.drewN _).call hb5
          by_cases hx0 : Sp.xerr xk xb xc = 0
          · rw [hx0]
            have hfin := Lib.hid (hstep.out (by rw [HEz.out, hx0]))
            clear hx0
            go_wp2_with fail
            exact ⟨⟨j + 1, by omega, by go_num, hk5, hfin⟩, by simp [intOf]; omega⟩
          · have hE := Lib.hid (hbad.out _ HEz.out hx0)
            have hx0' : (Sp.xerr xk xb xc != 0) = true := by simpa using hx0
            clear hx0
            go_wp2_with fail
            go_ret
            exact ⟨ret_int hE.out.symm, hk5.toBelow⟩
      · have u2 : (pi == xi) = false := by simpa using s2
        have HEz : Hid (Sp.pairErr F l j = Sp.xerr xk xb xc) := by show _ = _; rw [HEx.out, if_neg (by unfold Sp.lessP; simp only; rw [if_pos (by omega)]; simp; omega)]
        clear s1 s2
        go_upto_region 9 with fail
        go_quiet (fail)
        go_wp2_with fail
        refine (rxcheck_any xk xb xc _).mono ?_
        rintro e w5 ⟨rfl, hb5⟩
        have hk5 : Kept [] w w5 := (hkw.drewN _).call hb5
        by_cases hx0 : Sp.xerr xk xb xc = 0
        · rw [hx0]
          have hfin := Lib.hid (hstep.out (by rw [HEz.out, hx0]))
          clear hx0
          go_wp2_with fail
          exact ⟨⟨j + 1, by omega, by go_num, hk5, hfin⟩, by simp [intOf]; omega⟩
        · have hE := Lib.hid (hbad.out _ HEz.out hx0)
          have hx0' : (Sp.xerr xk xb xc != 0) = true := by simpa using hx0
          clear hx0
          go_wp2_with fail
          go_ret
          exact ⟨ret_int hE.out.symm, hk5.toBelow⟩
    · obtain rfl : j = n := by omega
      have hall : Hid (∀ x, x < l.length → Sp.pairErr F l x = 0) := fun x hx => hno.out x (by rw [HL.out] at hx; exact hx)
      have HZ := Lib.hid (Sp.pairs_end h8.out hall.out)
      clear hno hlt
      by_cases hn0 : j = 0
      · have k1 : ((j : Int) == 0) = true := by simp; omega
        have k2 : (j == 0) = true := by simp; omega
        have hE : Hid (Sp.pairsErr F l = 1) := by show _ = _; rw [HZ.out, if_pos (.inl (by rw [HL.out]; exact hn0))]
        have HN0 := Lib.hid hn0
        clear hn0
        go_wp2_with fail
        go_ret
        exact ⟨ret_int hE.out.symm, hBr⟩
      · have k1 : ((j : Int) == 0) = false := by simp; omega
        have k2 : (j == 0) = false := by simp; omega
        obtain ⟨b, o, rfl, hl, hc⟩ := (HP.out.later hBr).2 (by omega)
        obtain ⟨h1, h2, h3, h4, h5⟩ := hc 0 (by omega)
        simp only [Nat.zero_mul, Nat.add_zero] at h1 h2 h3 h4 h5
        obtain ⟨xi, xo, xk, xb, xc, en⟩ : ∃ xi xo xk xb xc, Sp.gx l 0 = ⟨xi, xo, xk, xb, xc⟩ := ⟨_, _, _, _, _, rfl⟩
        rw [en] at h1 h2 h3 h4 h5
        have hjp : 0 < j := by omega
        have HE : Hid (Sp.pairsErr F l = if (⟨xi, xo, xk, xb, xc⟩ : Sp.Xp) ≠ ⟨0, 0, 2, 0, 0⟩ then 1 else 0) := by
          show _ = _
          rw [HZ.out, en, HL.out]
          simp [hn0]
        clear en hc hn0
        go_wp2_with fail
        all_goals
          go_ret
          refine ⟨ret_int ?_, hBr⟩
          rw [HE.out]
          clear h1 h2 h3 h4 h5
          first | (simp_all; done) | (rw [if_pos (by intro hh; cases hh; simp_all)]) | (rw [if_neg (by simp_all)])
end Go.Proofs.YtmjebjjhfoncfaaDoor
