/- Texts: Jdz Ko Ea Ec Ed. -/
import Derived.Test.YtincpmdldpakkaaGreatDoorRc05
import Derived.Test.YtincpmdldpakkaaGreatDoorRc06
import Derived.Test.YtincpmdldpakkaaGreatDoorRc03
import Derived.Test.YtincpmdldpakkaaGreatDoorRc04
namespace Go.Df
open Go.RowKit
namespace If
def Prs (w : World) (A : Option Addr) (n : Nat) (l : List Pr) : Prop :=
 l.length = n ∧ (0 < n → ∃ b o, A = some ⟨b, o, none⟩ ∧ b < w.heap.size ∧ ∀ i, i < n → w.cell? ⟨b, o + i * 2, none⟩ = some (.int .i64 (gp l i).i) ∧ w.cell? ⟨b, o + i * 2 + 1, none⟩ = some (.int .i64 (gp l i).o))
theorem Prs.later {w w' : World} {A : Option Addr} {n : Nat} {l : List Pr} (h : Prs w A n l) (hb : Below w.heap.size w w') : Prs w' A n l :=
 ⟨h.1, fun hn => by
  obtain ⟨b, o, e, hl, hc⟩ := h.2 hn
  exact ⟨b, o, e, Nat.lt_of_lt_of_le hl hb.size, fun i hi => ⟨(hb.cell (p := ⟨b, _, none⟩) hl).trans (hc i hi).1, (hb.cell (p := ⟨b, _, none⟩) hl).trans (hc i hi).2⟩⟩⟩
def Sds (w : World) (A : Option Addr) (n : Nat) (l : List Sd) : Prop :=
 l.length = n ∧ (0 < n → ∃ b o, A = some ⟨b, o, none⟩ ∧ b < w.heap.size ∧ ∀ i, i < n → w.cell? ⟨b, o + i * 2, none⟩ = some (.int .i64 (gd l i).n) ∧ w.cell? ⟨b, o + i * 2 + 1, none⟩ = some (.int .i64 (gd l i).f))
theorem Sds.later {w w' : World} {A : Option Addr} {n : Nat} {l : List Sd} (h : Sds w A n l) (hb : Below w.heap.size w w') : Sds w' A n l :=
 ⟨h.1, fun hn => by
  obtain ⟨b, o, e, hl, hc⟩ := h.2 hn
  exact ⟨b, o, e, Nat.lt_of_lt_of_le hl hb.size, fun i hi => ⟨(hb.cell (p := ⟨b, _, none⟩) hl).trans (hc i hi).1, (hb.cell (p := ⟨b, _, none⟩) hl).trans (hc i hi).2⟩⟩⟩
def Flw (w : World) (A : Option Addr) (n : Nat) (ls : List (List Pr)) : Prop :=
 ls.length = n ∧ (0 < n → ∃ b o, A = some ⟨b, o, none⟩ ∧ b < w.heap.size ∧ ∀ i, i < n → ∃ Ai ni ci, w.cell? ⟨b, o + i, none⟩ = some (.slice Ai ni ci) ∧ ni ≤ ci ∧ Prs w Ai ni (gf ls i))
theorem Flw.later {w w' : World} {A : Option Addr} {n : Nat} {ls : List (List Pr)} (h : Flw w A n ls) (hb : Below w.heap.size w w') : Flw w' A n ls :=
 ⟨h.1, fun hn => by
  obtain ⟨b, o, e, hl, hc⟩ := h.2 hn
  refine ⟨b, o, e, Nat.lt_of_lt_of_le hl hb.size, fun i hi => ?_⟩
  obtain ⟨Ai, ni, ci, h1, h2, h3⟩ := hc i hi
  exact ⟨Ai, ni, ci, (hb.cell (p := ⟨b, _, none⟩) hl).trans h1, h2, h3.later hb⟩⟩
theorem filter_all {l : List Pr} {d : Int} (h : ∀ q ∈ l, q.i = d) : l.filter (fun q => q.i == d) = l := List.filter_eq_self.2 fun q hq => by simpa using h q hq
theorem filter_no {l : List Pr} {d : Int} (h : ∀ q ∈ l, q.i ≠ d) : l.filter (fun q => q.i == d) = [] := List.filter_eq_nil_iff.2 fun q hq => by simpa using h q hq
theorem Prs.mid {w : World} {b o n a m : Nat} {l : List Pr} (h : Prs w (some ⟨b, o, none⟩) n l) (h0 : a + m ≤ n) (hl : 0 < n) : Prs w (some ⟨b, o + a * 2, none⟩) m ((l.drop a).take m) := by
 obtain ⟨b', o', e, hlt, hc⟩ := h.2 hl
 injection e with e; injection e with e1 e2; subst e1 e2
 have hn := h.1
 refine ⟨by rw [List.length_take, List.length_drop]; omega, fun _ => ⟨b, o + a * 2, rfl, hlt, fun i hi => ?_⟩⟩
 have e : gp ((l.drop a).take m) i = gp l (a + i) := by
  rw [gp_lt (by rw [List.length_take, List.length_drop]; omega), gp_lt (by omega), List.getElem_take, List.getElem_drop]
 rw [e, show o + a * 2 + i * 2 = o + (a + i) * 2 by omega]
 exact hc (a + i) (by omega)
def GetPrs (w0 : World) (w : World) (l : List Pr) (e : Ending) (w' : World) : Prop := ∃ A n c, e = .returned (.slice A n c) ∧ Prs w0 A n l ∧ Below w.heap.size w w'
end If
theorem new2T (w : World) (b : Nat) (u v : Value) (t : TypeId) (hb : b = w.heap.size) : Rd (w.alloc (.cells #[u, v] t)) 2 (some ⟨b, 0, none⟩) 1 [u, v] := by
 subst hb
 refine ⟨rfl, fun _ => ⟨_, _, rfl, by simp, fun j _ => ?_⟩⟩
 rw [World.cell?_alloc_new, Nat.zero_add]; simp
namespace If
def prcells (l : List Pr) : List Value := l.flatMap fun x => [.int .i64 x.i, .int .i64 x.o]
theorem prcells_at : ∀ (l : List Pr) {i : Nat} (_ : i < l.length), (prcells l)[i * 2]? = some (.int .i64 (gp l i).i) ∧ (prcells l)[i * 2 + 1]? = some (.int .i64 (gp l i).o)
 | x :: l, 0, _ => by simp [prcells, gp]
 | x :: l, i + 1, h => by
  have h1 := prcells_at l (i := i) (by simpa using h)
  have e : prcells (x :: l) = [.int .i64 x.i, .int .i64 x.o] ++ prcells l := rfl
  have e2 : gp (x :: l) (i + 1) = gp l i := by simp [gp]
  rw [e, e2]
  refine ⟨?_, ?_⟩
  ·rw [List.getElem?_append_right (by simp; omega), show (i + 1) * 2 - [Value.int .i64 x.i, .int .i64 x.o].length = i * 2 by simp; omega]; exact h1.1
  ·rw [List.getElem?_append_right (by simp; omega), show (i + 1) * 2 + 1 - [Value.int .i64 x.i, .int .i64 x.o].length = i * 2 + 1 by simp; omega]; exact h1.2
theorem Prs.own {w : World} {base : Nat} {e : TypeId} {A : Option Addr} {n c : Nat} {l : List Pr} (h : w.ownsRow base e 2 (.slice A n c) n (prcells l)) (hl : l.length = n) : Prs w A n l ∧ n ≤ c := by
 by_cases h0 : 0 < n
 ·obtain ⟨g, c', hv, hb, hg, hc, -, hcell, -⟩ := own_cellsT h h0
  injection hv with e1 e2 e3
  subst e1
  subst e3
  exact ⟨⟨hl, fun _ => ⟨g, 0, rfl, hg, fun i hi => by
   obtain ⟨h1, h2⟩ := prcells_at l (i := i) (by omega)
   rw [Nat.zero_add, hcell _ (by omega), hcell _ (by omega)]
   exact ⟨h1, h2⟩⟩⟩, hc⟩
 ·exact ⟨⟨hl, fun h => absurd h h0⟩, by omega⟩
end If
end Go.Df
namespace Go.Proofs.YtincpmdldpakkaaGreatDoor
open Go.RowKit Go.Df Go.Df.If
end Go.Proofs.YtincpmdldpakkaaGreatDoor
namespace Go.Df
open Go.RowKit
namespace Sp
structure Xp where
 i : Int
 o : Int
 k : Int
 b : Int
 c : Int
deriving DecidableEq
structure Vs where
 n : Int
 f : Int
 k : Int
 v : Int
deriving DecidableEq
def xerr (k b c : Int) : Int := if k < 0 ∨ 4 < k then 12 else if (b ≠ 0 ∧ k ≠ 2 ∧ k ≠ 3) ∨ (c ≠ 0 ∧ k ≠ 1 ∧ k ≠ 3) then 1 else 0
def verr (k n : Int) : Int := if k < 0 ∨ 2 < k then 12 else if n ≠ 0 ∧ k ≠ 1 then 1 else 0
def gx (l : List Xp) (i : Nat) : Xp := l.getD i ⟨0, 0, 0, 0, 0⟩
def gs (l : List Vs) (i : Nat) : Vs := l.getD i ⟨0, 0, 0, 0⟩
theorem gx_lt {l : List Xp} {i : Nat} (h : i < l.length) : gx l i = l[i] := by simp [gx, h]
theorem gs_lt {l : List Vs} {i : Nat} (h : i < l.length) : gs l i = l[i] := by simp [gs, h]
def lessP (a b : Xp) : Bool := if a.i ≠ b.i then decide (a.i < b.i) else decide (a.o < b.o)
def pairErr (F : Int) (l : List Xp) (j : Nat) : Int :=
 if (gx l j).i < 0 ∨ F ≤ (gx l j).i ∨ (gx l j).o < 0 ∨ F ≤ (gx l j).o then 4
 else if 0 < j ∧ lessP (gx l (j - 1)) (gx l j) = false then 13 else xerr (gx l j).k (gx l j).b (gx l j).c
def pairsErr (F : Int) (l : List Xp) : Int :=
 if 8192 < l.length then 3 else if fe (pairErr F l) 0 l.length ≠ 0 then fe (pairErr F l) 0 l.length else if l.length = 0 ∨ gx l 0 ≠ ⟨0, 0, 2, 0, 0⟩ then 1 else 0
theorem pairs_hit {F : Int} {l : List Xp} {e : Int} {j : Nat} (h1 : l.length ≤ 8192) (h : ∀ x, x < j → pairErr F l x = 0) (hj : j < l.length) (he : pairErr F l j = e) (h0 : e ≠ 0) : pairsErr F l = e := by
 unfold pairsErr
 rw [if_neg (by omega), fe_hit h hj he h0, if_pos h0]
theorem pairs_end {F : Int} {l : List Xp} (h1 : l.length ≤ 8192) (h : ∀ x, x < l.length → pairErr F l x = 0) : pairsErr F l = if l.length = 0 ∨ gx l 0 ≠ ⟨0, 0, 2, 0, 0⟩ then 1 else 0 := by
 unfold pairsErr
 rw [if_neg (by omega), fe_ok l.length 0 (fun i _ hi => h i (by omega)), if_neg (by simp)]
end Sp
def Xps (w : World) (A : Option Addr) (n : Nat) (l : List Sp.Xp) : Prop :=
 l.length = n ∧ (0 < n → ∃ b o, A = some ⟨b, o, none⟩ ∧ b < w.heap.size ∧ ∀ i, i < n → w.cell? ⟨b, o + i * 5, none⟩ = some (.int .i64 (Sp.gx l i).i) ∧ w.cell? ⟨b, o + i * 5 + 1, none⟩ = some (.int .i64 (Sp.gx l i).o) ∧ w.cell? ⟨b, o + i * 5 + 2, none⟩ = some (.int .i64 (Sp.gx l i).k) ∧ w.cell? ⟨b, o + i * 5 + 3, none⟩ = some (.int .i64 (Sp.gx l i).b) ∧ w.cell? ⟨b, o + i * 5 + 4, none⟩ = some (.int .i64 (Sp.gx l i).c))
theorem Xps.later {w w' : World} {A : Option Addr} {n : Nat} {l : List Sp.Xp} (h : Xps w A n l) (hb : Below w.heap.size w w') : Xps w' A n l :=
 ⟨h.1, fun hn => by
  obtain ⟨b, o, e, hl, hc⟩ := h.2 hn
  exact ⟨b, o, e, Nat.lt_of_lt_of_le hl hb.size, fun i hi => ⟨(hb.cell (p := ⟨b, _, none⟩) hl).trans (hc i hi).1, (hb.cell (p := ⟨b, _, none⟩) hl).trans (hc i hi).2.1, (hb.cell (p := ⟨b, _, none⟩) hl).trans (hc i hi).2.2.1, (hb.cell (p := ⟨b, _, none⟩) hl).trans (hc i hi).2.2.2.1, (hb.cell (p := ⟨b, _, none⟩) hl).trans (hc i hi).2.2.2.2⟩⟩⟩
end Go.Df
namespace Go.Proofs.YtincpmdldpakkaaGreatDoor
open Go.RowKit Go.Df
attribute [local go_sem ↓] Go.wp_at_zero Go.wp_at_succ
set_option maxHeartbeats 1000000 in
theorem xcheck_any (k b c : Int) (w : World) :
   Calls Tryz.prog 128 #[.agg #[.int .i64 k, .int .i64 b, .int .i64 c]] w fun e w' => e = .returned (.int .i64 (Sp.xerr k b c)) ∧ Below w.heap.size w w' := by
 go_enter Tryz.func128, Tryz.ntmps128
 go_wp2
 all_goals (go_returns; refine ⟨ret_int ?_, by go_grown⟩; unfold Sp.xerr; (repeat' split) <;> first | rfl | omega | (exfalso; omega) | (simp_all; done) | (simp_all; omega) | (exfalso; simp_all; omega))
set_option maxHeartbeats 1000000 in
theorem rxcheck_any (k b c : Int) (w : World) :
   Calls Tryz.prog 71 #[.agg #[.int .i64 k, .int .i64 b, .int .i64 c]] w fun e w' => e = .returned (.int .i64 (Sp.xerr k b c)) ∧ Below w.heap.size w w' := by
 go_enter Tryz.func71, Tryz.ntmps71
 go_wp2
 all_goals (go_returns; refine ⟨ret_int ?_, by go_grown⟩; unfold Sp.xerr; (repeat' split) <;> first | rfl | omega | (exfalso; omega) | (simp_all; done) | (simp_all; omega) | (exfalso; simp_all; omega))
set_option maxHeartbeats 1000000 in
theorem vcheckv_any (k n : Int) (w : World) :
   Calls Tryz.prog 74 #[.agg #[.int .i64 k, .int .i64 n]] w fun e w' => e = .returned (.int .i64 (Sp.verr k n)) ∧ Below w.heap.size w w' := by
 go_enter Tryz.func74, Tryz.ntmps74
 go_wp2
 all_goals (go_returns; refine ⟨ret_int ?_, by go_grown⟩; unfold Sp.verr; (repeat' split) <;> first | rfl | omega | (exfalso; omega) | (simp_all; done) | (simp_all; omega) | (exfalso; simp_all; omega))
set_option maxHeartbeats 1000000 in
theorem rvcheckv_any (k n : Int) (w : World) :
   Calls Tryz.prog 30 #[.agg #[.int .i64 k, .int .i64 n]] w fun e w' => e = .returned (.int .i64 (Sp.verr k n)) ∧ Below w.heap.size w w' := by
 go_enter Tryz.func30, Tryz.ntmps30
 go_wp2
 all_goals (go_returns; refine ⟨ret_int ?_, by go_grown⟩; unfold Sp.verr; (repeat' split) <;> first | rfl | omega | (exfalso; omega) | (simp_all; done) | (simp_all; omega) | (exfalso; simp_all; omega))
end Go.Proofs.YtincpmdldpakkaaGreatDoor
namespace Go.Df
open Go.RowKit
theorem Sp.ordP_ge (a b : Sp.Xp) : decide (0 ≤ Sp.orL [Sp.cmpI a.i b.i, Sp.cmpI a.o b.o]) = !Sp.lessP a b := by
 unfold Sp.lessP
 rw [Sp.or_cmp, Sp.or_last]
 split <;> rfl
theorem two_ints (w : World) (x y : Int) (t : TypeId) (b : Nat) (hb : b = w.heap.size) : Ints (w.alloc (.cells #[.int .i64 x, .int .i64 y] t)) (some ⟨b, 0, none⟩) 2 [x, y] := by
 subst hb
 refine ⟨rfl, fun _ => ⟨_, _, rfl, by simp, fun i hi => ?_⟩⟩
 rw [World.cell?_alloc_new, Nat.zero_add]
 match i, hi with
 | 0, _ => rfl
 | 1, _ => rfl
structure Gv (w : World) : Prop where
 c0 : w.cell? ⟨0, 0, none⟩ = some (.int .i64 2)
 c1 : w.cell? ⟨0, 1, none⟩ = some (.int .i64 0)
 c2 : w.cell? ⟨0, 2, none⟩ = some (.int .i64 0)
 lt : 0 < w.heap.size
theorem Gv.later {w w' : World} (h : Gv w) (hb : Below w.heap.size w w') : Gv w' := ⟨(hb.cell (p := ⟨0, _, none⟩) h.lt).trans h.c0, (hb.cell (p := ⟨0, _, none⟩) h.lt).trans h.c1, (hb.cell (p := ⟨0, _, none⟩) h.lt).trans h.c2, Nat.lt_of_lt_of_le h.lt hb.size⟩
end Go.Df
namespace Go.Proofs.YtincpmdldpakkaaGreatDoor
open Go.RowKit Go.Df
attribute [local go_sem ↓] Go.wp_at_zero Go.wp_at_succ
set_option maxRecDepth 100000 in
set_option maxHeartbeats 4000000 in
theorem cpairs_any (A : Option Addr) (n c : Nat) (F : Int) (l : List Sp.Xp) (w : World) (hp : Xps w A n l) (hgv : Gv w) :
   Calls Tryz.prog 73 #[.slice A n c, .int .i64 F] w fun e w' => e = .returned (.int .i64 (Sp.pairsErr F l)) ∧ Below w.heap.size w w' := by
 have HP := Lib.hid hp
 have HGV := Lib.hid hgv
 have HL := Lib.hid hp.1
 clear hp hgv
 by_cases t1 : 8192 < n
 · have d1 : decide ((8192 : Int) < n) = true := by simp; omega
   go_enter Tryz.func73, Tryz.ntmps73
   go_wp2_with fail
   go_ret
   exact ⟨ret_int (by unfold Sp.pairsErr; rw [HL.out, if_pos (by omega)]), Below.refl _ _⟩
 have d1 : decide ((8192 : Int) < n) = false := by simp; omega
 have h8 : Hid (l.length ≤ 8192) := by show _ ≤ _; rw [HL.out]; omega
 go_enter Tryz.func73, Tryz.ntmps73
 go_wp2_with fail
 go_loopw [13] (fun i wr => ∃ j : Nat, j ≤ n ∧ i = .int .i64 j ∧ Kept [] w wr ∧ Hid (∀ x, x < j → Sp.pairErr F l x = 0)) (fun i _ => n - (intOf i).toNat)
 case atStart => exact ⟨0, Nat.zero_le _, rfl, Kept.refl _ _, Lib.hid (fun j hj => absurd hj (by omega))⟩
 case round =>
   obtain ⟨j, hj, rfl, hkr, hno⟩ := hrel
   have hBr := hkr.toBelow
   by_cases hlt : j < n
   · obtain ⟨b, o, rfl, hl, hc⟩ := (HP.out.later hBr).2 (by omega)
     obtain ⟨h1, h2, h3, h4, h5⟩ := hc j hlt
     have HC := Lib.hid hc
     have LB := Lib.hid hl
     clear hc
     obtain ⟨xi, xo, xk, xb, xc, en⟩ : ∃ xi xo xk xb xc, Sp.gx l j = ⟨xi, xo, xk, xb, xc⟩ := ⟨_, _, _, _, _, rfl⟩
     rw [en] at h1 h2 h3 h4 h5
     have HE := Lib.hid en
     clear en
     go_upto_region 6 with fail
     refine wp_named (fun V => ∃ g, wr.heap.size = g ∧ Blk V g [.int .i64 xi, .int .i64 xo, .int .i64 xk, .int .i64 xb, .int .i64 xc] ∧ Kept [] wr V) ⟨_, rfl, Blk.new _ _ _ _ rfl, (Kept.refl _ _).alloc _⟩ ?_
     rintro V ⟨g, eg, Bg, hkV⟩
     rw [eg]
     have hkw : Kept [] w V := keptTrans hkr hkV
     have ⟨LG, CG, FG⟩ := Bg
     have hBV := hkw.toBelow
     clear h1 h2 h3 h4 h5 eg
     have hbad : Hid (∀ e, Sp.pairErr F l j = e → e ≠ 0 → Sp.pairsErr F l = e) := fun e h1 h2 => Sp.pairs_hit h8.out hno.out (by rw [HL.out]; exact hlt) h1 h2
     have hstep : Hid (Sp.pairErr F l j = 0 → ∀ x, x < j + 1 → Sp.pairErr F l x = 0) := fun h0 x hx => by
       rcases Nat.lt_or_ge x j with h9 | h9
       · exact hno.out x h9
       · obtain rfl : x = j := by omega
         exact h0
     have HEr : Hid (Sp.pairErr F l j = if xi < 0 ∨ F ≤ xi ∨ xo < 0 ∨ F ≤ xo then 4 else if 0 < j ∧ Sp.lessP (Sp.gx l (j - 1)) ⟨xi, xo, xk, xb, xc⟩ = false then 13 else Sp.xerr xk xb xc) := by
       show _ = _
       unfold Sp.pairErr
       rw [HE.out]
     by_cases r0 : xi < 0
     · have z : decide (xi < 0) = true := by simpa using r0
       have hE := Lib.hid (hbad.out 4 (by rw [HEr.out, if_pos (by omega)]) (by omega))
       go_wp2_with fail
       go_ret
       exact ⟨ret_int hE.out.symm, hBV⟩
     have z0 : decide (xi < 0) = false := by simpa using r0
     by_cases r1 : F ≤ xi
     · have z : decide (F ≤ xi) = true := by simpa using r1
       have hE := Lib.hid (hbad.out 4 (by rw [HEr.out, if_pos (by omega)]) (by omega))
       go_wp2_with fail
       go_ret
       exact ⟨ret_int hE.out.symm, hBV⟩
     have z1 : decide (F ≤ xi) = false := by simpa using r1
     by_cases r2 : xo < 0
     · have z : decide (xo < 0) = true := by simpa using r2
       have hE := Lib.hid (hbad.out 4 (by rw [HEr.out, if_pos (by omega)]) (by omega))
       go_wp2_with fail
       go_ret
       exact ⟨ret_int hE.out.symm, hBV⟩
     have z2 : decide (xo < 0) = false := by simpa using r2
     by_cases r3 : F ≤ xo
     · have z : decide (F ≤ xo) = true := by simpa using r3
       have hE := Lib.hid (hbad.out 4 (by rw [HEr.out, if_pos (by omega)]) (by omega))
       go_wp2_with fail
       go_ret
       exact ⟨ret_int hE.out.symm, hBV⟩
     have z3 : decide (F ≤ xo) = false := by simpa using r3
     have HEy : Hid (Sp.pairErr F l j = if 0 < j ∧ Sp.lessP (Sp.gx l (j - 1)) ⟨xi, xo, xk, xb, xc⟩ = false then 13 else Sp.xerr xk xb xc) := by
       show _ = _
       rw [HEr.out, if_neg (by omega)]
     clear HEr r0 r1 r2 r3
     by_cases hj0 : j = 0
     · have y1 : decide (0 < j) = false := by simp; omega
       have y2 : decide ((0 : Int) < (j : Int)) = false := by simp; omega
       have HEz : Hid (Sp.pairErr F l j = Sp.xerr xk xb xc) := by show _ = _; rw [HEy.out, if_neg (by omega)]
       clear hj0
       go_upto_region 8 with fail
       go_quiet (fail)
       go_wp2_with fail
       refine (xcheck_any xk xb xc _).mono ?_
       rintro e w5 ⟨rfl, hb5⟩
       have hk5 : Kept [] w w5 := (hkw.drewN _).call hb5
       by_cases hx0 : Sp.xerr xk xb xc = 0
       · rw [hx0]
         have hfin := Lib.hid (hstep.out (by rw [HEz.out, hx0]))
         clear hx0
         go_wp2_with fail
         exact ⟨⟨j + 1, by omega, by go_num, hk5, hfin⟩, by simp [intOf]; omega⟩
       · have hE := Lib.hid (hbad.out _ HEz.out hx0)
         have hx0' : (Sp.xerr xk xb xc != 0) = true := by simpa using hx0
         clear hx0
         go_wp2_with fail
         go_ret
         exact ⟨ret_int hE.out.symm, hk5.toBelow⟩
     have y1 : decide (0 < j) = true := by simp; omega
     have y2 : decide ((0 : Int) < (j : Int)) = true := by simp; omega
     have y3 : IntKind.i64.wrap ((j : Int) - 1) = (j : Int) - 1 := IntWalk.i64_in _ (by omega)
     have y4 : (0 : Int) ≤ (j : Int) - 1 := by omega
     have y5 : ((j : Int) - 1).toNat = j - 1 := by omega
     have y6 : (j : Int) - 1 < (n : Int) := by omega
     have y7 : 0 < j := by omega
     have y8 : 1 ≤ j := by omega
     have y9 : (1 : Int) ≤ (j : Int) := by omega
     have y10 : j ≤ n := by omega
     have y11 : j < n + 1 := by omega
     have y12 : (j : Int) < (n : Int) + 1 := by omega
     have y13 : (j : Int) ≤ (n : Int) := by omega
     obtain ⟨p1, p2, -, -, -⟩ := HC.out (j - 1) (by omega)
     obtain ⟨pi, po, pk, pb, pc, ep⟩ : ∃ pi po pk pb pc, Sp.gx l (j - 1) = ⟨pi, po, pk, pb, pc⟩ := ⟨_, _, _, _, _, rfl⟩
     rw [ep] at p1 p2
     have q1 : V.cell? ⟨b, o + (j - 1) * 5, none⟩ = some (.int .i64 pi) := (hkV.cell b _ LB.out (by simp)).trans p1
     have q2 : V.cell? ⟨b, o + (j - 1) * 5 + 1, none⟩ = some (.int .i64 po) := (hkV.cell b _ LB.out (by simp)).trans p2
     have hbV : b < V.heap.size := Nat.lt_of_lt_of_le LB.out hkV.size
     have HEx : Hid (Sp.pairErr F l j = if Sp.lessP ⟨pi, po, pk, pb, pc⟩ ⟨xi, xo, xk, xb, xc⟩ = false then 13 else Sp.xerr xk xb xc) := by
       show _ = _
       rw [HEy.out, ep]
       simp [y7]
     clear p1 p2 ep hj0
     go_upto_region 8 with fail
     go_cut [62] (fun s wx => s = .bool (!Sp.lessP ⟨pi, po, pk, pb, pc⟩ ⟨xi, xo, xk, xb, xc⟩) ∧ Kept [] V wx)
     case first =>
       go_region_held3 (fun w' => SX0 V w') (exact kp0)
         (first | (go_at_call 55; refine (compare_any _ _ _).mono ?_; rintro e w1 ⟨rfl, rfl⟩) | (go_at_call 54; refine (or_any _ _ _ [Sp.cmpI pi xi, Sp.cmpI po xo] _ (by first | exact two_ints _ _ _ _ _ (by first | rfl | simp) | exact Ints.drew (two_ints _ _ _ _ _ (by first | rfl | simp))) (by omega) (by omega)).mono ?_; rintro e w2 ⟨rfl, rfl⟩))
       all_goals
         go_wp2_with fail
         go_meet
         refine ⟨congrArg Value.bool (Sp.ordP_ge ⟨pi, po, pk, pb, pc⟩ ⟨xi, xo, xk, xb, xc⟩), ?_⟩
         (exact kpt0)
     case rest =>
       obtain ⟨rfl, hkc⟩ := hcut
       have hkwc : Kept [] w wc := keptTrans hkw hkc
       have ⟨LC, CC, FC⟩ := hkc.blk (by simp) Bg
       clear CG FG q1 q2
       by_cases hles : Sp.lessP ⟨pi, po, pk, pb, pc⟩ ⟨xi, xo, xk, xb, xc⟩ = true
       · rw [hles]
         have HEz : Hid (Sp.pairErr F l j = Sp.xerr xk xb xc) := by show _ = _; rw [HEx.out, hles, if_neg (by simp)]
         clear hles
         go_wp2_with fail
         refine (xcheck_any xk xb xc _).mono ?_
         rintro e w5 ⟨rfl, hb5⟩
         have hk5 : Kept [] w w5 := (hkwc).call hb5
         by_cases hx0 : Sp.xerr xk xb xc = 0
         · rw [hx0]
           have hfin := Lib.hid (hstep.out (by rw [HEz.out, hx0]))
           clear hx0
           go_wp2_with fail
           exact ⟨⟨j + 1, by omega, by go_num, hk5, hfin⟩, by simp [intOf]; omega⟩
         · have hE := Lib.hid (hbad.out _ HEz.out hx0)
           have hx0' : (Sp.xerr xk xb xc != 0) = true := by simpa using hx0
           clear hx0
           go_wp2_with fail
           go_ret
           exact ⟨ret_int hE.out.symm, hk5.toBelow⟩
       · rw [Bool.not_eq_true] at hles
         rw [hles]
         have hE := Lib.hid (hbad.out 13 (by rw [HEx.out, hles, if_pos rfl]) (by omega))
         clear hles
         go_wp2_with fail
         go_ret
         exact ⟨ret_int hE.out.symm, hkwc.toBelow⟩
   · obtain rfl : j = n := by omega
     have hall : Hid (∀ x, x < l.length → Sp.pairErr F l x = 0) := fun x hx => hno.out x (by rw [HL.out] at hx; exact hx)
     have HZ := Lib.hid (Sp.pairs_end h8.out hall.out)
     obtain ⟨gv0, gv1, gv2, gvl⟩ := HGV.out.later hBr
     clear hno hlt
     by_cases hn0 : j = 0
     · have k1 : ((j : Int) == 0) = true := by simp; omega
       have k2 : (j == 0) = true := by simp; omega
       have hE : Hid (Sp.pairsErr F l = 1) := by show _ = _; rw [HZ.out, if_pos (.inl (by rw [HL.out]; exact hn0))]
       have HN0 := Lib.hid hn0
       clear hn0
       go_upto_region 14 with fail
       go_quiet (fail)
       go_wp2_with fail
       go_ret
       exact ⟨ret_int hE.out.symm, (hkr.drewN _).toBelow⟩
     · have k1 : ((j : Int) == 0) = false := by simp; omega
       have k2 : (j == 0) = false := by simp; omega
       obtain ⟨b, o, rfl, hl, hc⟩ := (HP.out.later hBr).2 (by omega)
       obtain ⟨h1, h2, h3, h4, h5⟩ := hc 0 (by omega)
       simp only [Nat.zero_mul, Nat.add_zero] at h1 h2 h3 h4 h5
       obtain ⟨xi, xo, xk, xb, xc, en⟩ : ∃ xi xo xk xb xc, Sp.gx l 0 = ⟨xi, xo, xk, xb, xc⟩ := ⟨_, _, _, _, _, rfl⟩
       rw [en] at h1 h2 h3 h4 h5
       have hjp : 0 < j := by omega
       have HE : Hid (Sp.pairsErr F l = if (⟨xi, xo, xk, xb, xc⟩ : Sp.Xp) ≠ ⟨0, 0, 2, 0, 0⟩ then 1 else 0) := by
         show _ = _
         rw [HZ.out, en, HL.out]
         simp [hn0]
       clear en hc hn0
       by_cases hq : (⟨xi, xo, xk, xb, xc⟩ : Sp.Xp) = ⟨0, 0, 2, 0, 0⟩
       · obtain ⟨rfl, rfl, rfl, rfl, rfl⟩ : xi = 0 ∧ xo = 0 ∧ xk = 2 ∧ xb = 0 ∧ xc = 0 := by simpa using hq
         have hE := Lib.hid (HE.out.trans (if_neg (not_not_intro rfl)))
         clear hq
         go_upto_region 14 with fail
         go_quiet (fail)
         go_wp2_with fail
         go_ret
         exact ⟨ret_int hE.out.symm, (hkr.drewN _).toBelow⟩
       · have hE := Lib.hid (HE.out.trans (if_pos hq))
         have HQ := Lib.hid hq
         clear hq
         by_cases exi : xi = 0
         case neg =>
           have fxi : (xi == 0) = false := by simpa using exi
           have fxi' : (xi != 0) = true := by simpa using exi
           clear exi
           go_upto_region 14 with fail
           go_quiet (fail)
           go_wp2_with fail
           all_goals
             go_ret
             exact ⟨ret_int hE.out.symm, (hkr.drewN _).toBelow⟩
         subst exi
         by_cases exo : xo = 0
         case neg =>
           have fxo : (xo == 0) = false := by simpa using exo
           have fxo' : (xo != 0) = true := by simpa using exo
           clear exo
           go_upto_region 14 with fail
           go_quiet (fail)
           go_wp2_with fail
           all_goals
             go_ret
             exact ⟨ret_int hE.out.symm, (hkr.drewN _).toBelow⟩
         subst exo
         by_cases exk : xk = 2
         case neg =>
           have fxk : (xk == 2) = false := by simpa using exk
           have fxk' : (xk != 2) = true := by simpa using exk
           clear exk
           go_upto_region 14 with fail
           go_quiet (fail)
           go_wp2_with fail
           all_goals
             go_ret
             exact ⟨ret_int hE.out.symm, (hkr.drewN _).toBelow⟩
         subst exk
         by_cases exb : xb = 0
         case neg =>
           have fxb : (xb == 0) = false := by simpa using exb
           have fxb' : (xb != 0) = true := by simpa using exb
           clear exb
           go_upto_region 14 with fail
           go_quiet (fail)
           go_wp2_with fail
           all_goals
             go_ret
             exact ⟨ret_int hE.out.symm, (hkr.drewN _).toBelow⟩
         subst exb
         by_cases exc : xc = 0
         case neg =>
           have fxc : (xc == 0) = false := by simpa using exc
           have fxc' : (xc != 0) = true := by simpa using exc
           clear exc
           go_upto_region 14 with fail
           go_quiet (fail)
           go_wp2_with fail
           all_goals
             go_ret
             exact ⟨ret_int hE.out.symm, (hkr.drewN _).toBelow⟩
         subst exc
         exact absurd rfl HQ.out
end Go.Proofs.YtincpmdldpakkaaGreatDoor
namespace Go.Df
open Go.RowKit
namespace Sp
def gl (ls : List (List Xp)) (i : Nat) : List Xp := ls.getD i []
def lessS (a b : Vs) : Bool := if a.n ≠ b.n then decide (a.n < b.n) else decide (a.f < b.f)
theorem ordS_ge (a b : Vs) : decide (0 ≤ orL [cmpI a.n b.n, cmpI a.f b.f]) = !lessS a b := by
 unfold lessS
 rw [or_cmp, or_last]
 split <;> rfl
def seedErr (N : Nat) (F : Int) (l : List Vs) (j : Nat) : Int :=
 if (gs l j).n < 0 ∨ (N : Int) ≤ (gs l j).n ∨ (gs l j).f < 1 ∨ F ≤ (gs l j).f then 4
 else if verr (gs l j).k (gs l j).v ≠ 0 then verr (gs l j).k (gs l j).v
 else if 0 < j ∧ lessS (gs l (j - 1)) (gs l j) = false then 13 else 0
def ideErr (ns : List Nd) (es : List Ed) (m F : Int) (ls : List (List Xp)) (sd : List Vs) : Int :=
 if superErr ns es m ≠ 0 then superErr ns es m else if F < 1 ∨ 1024 < F then 4 else if ls.length ≠ es.length then 20
 else if fe (fun i => pairsErr F (gl ls i)) 0 ls.length ≠ 0 then fe (fun i => pairsErr F (gl ls i)) 0 ls.length else fe (seedErr ns.length F sd) 0 sd.length
theorem ide_flow {ns : List Nd} {es : List Ed} {m F : Int} {ls : List (List Xp)} {sd : List Vs} {e : Int} {j : Nat} (h1 : superErr ns es m = 0) (h2 : ¬ (F < 1 ∨ 1024 < F)) (h3 : ls.length = es.length)
  (h : ∀ x, x < j → pairsErr F (gl ls x) = 0) (hj : j < ls.length) (he : pairsErr F (gl ls j) = e) (h0 : e ≠ 0) : ideErr ns es m F ls sd = e := by
 unfold ideErr
 rw [if_neg (not_not_intro h1), if_neg h2, if_neg (not_not_intro h3), fe_hit h hj he h0, if_pos h0]
theorem ide_seed {ns : List Nd} {es : List Ed} {m F : Int} {ls : List (List Xp)} {sd : List Vs} {e : Int} {j : Nat} (h1 : superErr ns es m = 0) (h2 : ¬ (F < 1 ∨ 1024 < F)) (h3 : ls.length = es.length)
  (h4 : ∀ x, x < ls.length → pairsErr F (gl ls x) = 0) (h : ∀ x, x < j → seedErr ns.length F sd x = 0) (hj : j < sd.length) (he : seedErr ns.length F sd j = e) (h0 : e ≠ 0) : ideErr ns es m F ls sd = e := by
 unfold ideErr
 rw [if_neg (not_not_intro h1), if_neg h2, if_neg (not_not_intro h3), fe_ok ls.length 0 (fun i _ hi => h4 i (by omega)), if_neg (by simp), fe_hit h hj he h0]
theorem ide_ok {ns : List Nd} {es : List Ed} {m F : Int} {ls : List (List Xp)} {sd : List Vs} (h1 : superErr ns es m = 0) (h2 : ¬ (F < 1 ∨ 1024 < F)) (h3 : ls.length = es.length)
  (h4 : ∀ x, x < ls.length → pairsErr F (gl ls x) = 0) (h : ∀ x, x < sd.length → seedErr ns.length F sd x = 0) : ideErr ns es m F ls sd = 0 := by
 unfold ideErr
 rw [if_neg (not_not_intro h1), if_neg h2, if_neg (not_not_intro h3), fe_ok ls.length 0 (fun i _ hi => h4 i (by omega)), if_neg (by simp), fe_ok sd.length 0 (fun i _ hi => h i (by omega))]
end Sp
theorem Xps.kept {w w' : World} {A : Option Addr} {n : Nat} {l : List Sp.Xp} (h : Xps w A n l) (hk : Kept [] w w') : Xps w' A n l := h.later hk.toBelow
def Fls (w : World) (A : Option Addr) (n : Nat) (ls : List (List Sp.Xp)) : Prop :=
 ls.length = n ∧ (0 < n → ∃ b o, A = some ⟨b, o, none⟩ ∧ b < w.heap.size ∧ ∀ i, i < n → ∃ Ai ni ci, w.cell? ⟨b, o + i, none⟩ = some (.slice Ai ni ci) ∧ Xps w Ai ni (Sp.gl ls i))
def Vss (w : World) (A : Option Addr) (n : Nat) (l : List Sp.Vs) : Prop :=
 l.length = n ∧ (0 < n → ∃ b o, A = some ⟨b, o, none⟩ ∧ b < w.heap.size ∧ ∀ i, i < n → w.cell? ⟨b, o + i * 4, none⟩ = some (.int .i64 (Sp.gs l i).n) ∧ w.cell? ⟨b, o + i * 4 + 1, none⟩ = some (.int .i64 (Sp.gs l i).f) ∧ w.cell? ⟨b, o + i * 4 + 2, none⟩ = some (.int .i64 (Sp.gs l i).k) ∧ w.cell? ⟨b, o + i * 4 + 3, none⟩ = some (.int .i64 (Sp.gs l i).v))
theorem Fls.later {w w' : World} {A : Option Addr} {n : Nat} {ls : List (List Sp.Xp)} (h : Fls w A n ls) (hb : Below w.heap.size w w') : Fls w' A n ls :=
 ⟨h.1, fun hn => by
  obtain ⟨b, o, e, hl, hc⟩ := h.2 hn
  refine ⟨b, o, e, Nat.lt_of_lt_of_le hl hb.size, fun i hi => ?_⟩
  obtain ⟨Ai, ni, ci, h1, h2⟩ := hc i hi
  exact ⟨Ai, ni, ci, (hb.cell (p := ⟨b, _, none⟩) hl).trans h1, h2.later hb⟩⟩
theorem Vss.later {w w' : World} {A : Option Addr} {n : Nat} {l : List Sp.Vs} (h : Vss w A n l) (hb : Below w.heap.size w w') : Vss w' A n l :=
 ⟨h.1, fun hn => by
  obtain ⟨b, o, e, hl, hc⟩ := h.2 hn
  exact ⟨b, o, e, Nat.lt_of_lt_of_le hl hb.size, fun i hi => ⟨(hb.cell (p := ⟨b, _, none⟩) hl).trans (hc i hi).1, (hb.cell (p := ⟨b, _, none⟩) hl).trans (hc i hi).2.1, (hb.cell (p := ⟨b, _, none⟩) hl).trans (hc i hi).2.2.1, (hb.cell (p := ⟨b, _, none⟩) hl).trans (hc i hi).2.2.2⟩⟩⟩
end Go.Df
