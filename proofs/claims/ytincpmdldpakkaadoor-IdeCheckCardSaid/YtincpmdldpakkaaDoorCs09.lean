/- Texts: Be Ia Ib Ic. -/
import Derived.Test.YtincpmdldpakkaaDoorCs08
import Derived.Test.YtincpmdldpakkaaDoorCs05
namespace Go.Df
namespace Iv
open Go.RowKit Go.Proofs.YtincpmdldpakkaaDoor
theorem wrap_wrap (a : Int) : wrap64 (wrap64 a) = wrap64 a := by unfold wrap64; omega
theorem wrap_zero : wrap64 0 = 0 := by unfold wrap64; omega
theorem fits_shifted (x : Xf.X) (n : Int) : Xf.fits (Xf.shifted x n) := by
  unfold Xf.shifted Xf.fits
  (repeat' split) <;> simp [wrap_wrap, wrap_zero]
theorem fits_compose {x y : Xf.X} (hy : Xf.fits y) : Xf.fits (Xf.compose x y) := by
  have hs := fits_shifted x y.b
  unfold Xf.compose
  dsimp only
  (repeat' split) <;> first | exact hs | exact hy | exact ⟨wrap_zero, wrap_zero⟩ | exact ⟨hs.1, hy.2⟩
theorem fits_meet {x y : Xf.X} (hx : Xf.fits x) (hy : Xf.fits y) : Xf.fits (Xf.meet x y) := by
  unfold Xf.meet
  (repeat' split) <;> first | exact hx | exact hy | exact ⟨wrap_zero, wrap_zero⟩ | exact ⟨by (first | exact hx.1 | exact hy.1 | exact wrap_zero), by (first | exact hx.2 | exact hy.2 | exact wrap_zero)⟩
theorem fits_apply {x : Xf.X} {v : Xf.V} (hx : Xf.fits x) (hv : wrap64 v.n = v.n) : wrap64 (Xf.apply x v).n = (Xf.apply x v).n := by
  unfold Xf.apply Xf.sum Xf.meetV
  (repeat' split) <;> first | exact hv | exact wrap_zero | exact hx.2 | exact wrap_wrap _ | (simp [wrap_wrap, wrap_zero, hx.2, hv]; done)
theorem fits_meetV {v w : Xf.V} (hv : wrap64 v.n = v.n) (hw : wrap64 w.n = w.n) : wrap64 (Xf.meetV v w).n = (Xf.meetV v w).n := by
  unfold Xf.meetV
  (repeat' split) <;> first | exact hv | exact hw | exact wrap_zero
def D : Type := { x : Xf.X // Xf.rcheck x = 0 ∧ Xf.fits x }
def U : Type := { v : Xf.V // Xf.rcheckV v = 0 ∧ wrap64 v.n = v.n }
instance : DecidableEq D := fun x y => if h : x.1 = y.1 then isTrue (Subtype.ext h) else isFalse (fun e => h (congrArg Subtype.val e))
instance : DecidableEq U := fun x y => if h : x.1 = y.1 then isTrue (Subtype.ext h) else isFalse (fun e => h (congrArg Subtype.val e))
def mkD (x : Xf.X) (h : Xf.rcheck x = 0 ∧ Xf.fits x) : D := ⟨x, h⟩
theorem mkD_val {x : Xf.X} (h : Xf.rcheck x = 0 ∧ Xf.fits x) : (mkD x h).1 = x := rfl
theorem check_const (v : Int) : Xf.rcheck ⟨1, 0, v⟩ = 0 := by unfold Xf.rcheck; simp
def top : D := ⟨⟨0, 0, 0⟩, by decide, wrap_zero, wrap_zero⟩
def shift : D := ⟨⟨2, 0, 0⟩, by decide, wrap_zero, wrap_zero⟩
def bot : D := ⟨⟨4, 0, 0⟩, by decide, wrap_zero, wrap_zero⟩
def meet (x y : D) : D := ⟨Xf.meet x.1 y.1, Xf.check_meet x.2.1 y.2.1, fits_meet x.2.2 y.2.2⟩
def comp (x y : D) : D := ⟨Xf.compose x.1 y.1, Xf.check_compose x.2.1 y.2.1, fits_compose y.2.2⟩
def topV : U := ⟨⟨0, 0⟩, by decide, wrap_zero⟩
def botV : U := ⟨⟨2, 0⟩, by decide, wrap_zero⟩
theorem check_meetV {v w : Xf.V} (hv : Xf.rcheckV v = 0) (hw : Xf.rcheckV w = 0) : Xf.rcheckV (Xf.meetV v w) = 0 := by
  unfold Xf.meetV
  (repeat' split) <;> first | exact hv | exact hw | decide
def meetV (v w : U) : U := ⟨Xf.meetV v.1 w.1, check_meetV v.2.1 w.2.1, fits_meetV v.2.2 w.2.2⟩
def app (x : D) (v : U) : U := ⟨Xf.apply x.1 v.1, Xf.check_apply x.2.1 v.2.1, fits_apply x.2.2 v.2.2⟩
theorem meet_self (x : D) : meet x x = x := Subtype.ext (Xf.meet_self _)
theorem meet_comm (x y : D) : meet x y = meet y x := Subtype.ext (Xf.meet_comm x.2.1 y.2.1)
theorem meet_assoc (x y z : D) : meet (meet x y) z = meet x (meet y z) := Subtype.ext (Xf.meet_assoc x.2.1 y.2.1 z.2.1)
theorem meet_top (x : D) : meet x top = x := Subtype.ext (Xf.meet_top _)
theorem top_meet (x : D) : meet top x = x := by rw [meet_comm, meet_top]
theorem comp_top (x : D) : comp x top = top := Subtype.ext (by show Xf.compose x.1 ⟨0, 0, 0⟩ = ⟨0, 0, 0⟩; unfold Xf.compose; rw [if_pos (Or.inr rfl)])
theorem top_comp (x : D) : comp top x = top := Subtype.ext (by show Xf.compose ⟨0, 0, 0⟩ x.1 = ⟨0, 0, 0⟩; unfold Xf.compose; rw [if_pos (Or.inl rfl)])
theorem comp_assoc (x y z : D) : comp (comp x y) z = comp x (comp y z) := Subtype.ext (Xf.compose_assoc x.2.1 y.2.1 z.2.1 x.2.2 y.2.2)
theorem comp_meet (x y z : D) : comp x (meet y z) = meet (comp x y) (comp x z) := Subtype.ext (Xf.compose_meet x.2.1 y.2.1 z.2.1 y.2.2 z.2.2)
theorem meet_comp (x y z : D) : comp (meet x y) z = meet (comp x z) (comp y z) := Subtype.ext (Xf.meet_compose x.2.1 y.2.1 z.2.1 x.2.2 y.2.2)
theorem app_comp (x y : D) (v : U) : app (comp x y) v = app y (app x v) := Subtype.ext (Xf.apply_compose x.2.1 y.2.1 v.2.1 x.2.2)
theorem app_meet (x y : D) (v : U) : app (meet x y) v = meetV (app x v) (app y v) := Subtype.ext (Xf.apply_meet x.2.1 y.2.1 v.2.1 x.2.2 y.2.2)
theorem app_meetV (x : D) (v w : U) : app x (meetV v w) = meetV (app x v) (app x w) := Subtype.ext (Xf.apply_meetV x.2.1 v.2.1 w.2.1 v.2.2 w.2.2)
theorem app_topV (x : D) : app x topV = topV := Subtype.ext (by show Xf.apply x.1 ⟨0, 0⟩ = ⟨0, 0⟩; unfold Xf.apply; rw [if_pos rfl])
theorem top_app (v : U) : app top v = topV := Subtype.ext (by show Xf.apply ⟨0, 0, 0⟩ v.1 = ⟨0, 0⟩; unfold Xf.apply; split <;> first | rfl | (rw [if_pos rfl]))
theorem meetV_self (v : U) : meetV v v = v := Subtype.ext (by show Xf.meetV v.1 v.1 = v.1; unfold Xf.meetV; rw [if_pos (Or.inl rfl)])
theorem meetV_comm (v w : U) : meetV v w = meetV w v := Subtype.ext (by
  show Xf.meetV v.1 w.1 = Xf.meetV w.1 v.1
  rcases Xf.validV_cases v.2.1 with h | ⟨n, h⟩ | h <;> rcases Xf.validV_cases w.2.1 with k | ⟨m, k⟩ | k <;> rw [h, k] <;> simp [Xf.meetV] <;> grind)
theorem meetV_assoc (u v w : U) : meetV (meetV u v) w = meetV u (meetV v w) := Subtype.ext (by
  show Xf.meetV (Xf.meetV u.1 v.1) w.1 = Xf.meetV u.1 (Xf.meetV v.1 w.1)
  rcases Xf.validV_cases u.2.1 with g | ⟨l, g⟩ | g <;> rcases Xf.validV_cases v.2.1 with h | ⟨n, h⟩ | h <;> rcases Xf.validV_cases w.2.1 with k | ⟨m, k⟩ | k <;> rw [g, h, k] <;> simp [Xf.meetV] <;> grind)
theorem meetV_top (v : U) : meetV v topV = v := Subtype.ext (by show Xf.meetV v.1 ⟨0, 0⟩ = v.1; unfold Xf.meetV; rw [if_pos (Or.inr rfl)])
theorem top_meetV (v : U) : meetV topV v = v := by rw [meetV_comm, meetV_top]
def le (x y : D) : Prop := meet y x = x
def leV (v w : U) : Prop := meetV w v = v
theorem le_refl (x : D) : le x x := meet_self x
theorem le_top (x : D) : le x top := top_meet x
theorem le_trans {x y z : D} (h : le x y) (k : le y z) : le x z := by
  unfold le at *
  rw [← h, ← meet_assoc, k]
theorem le_antisymm {x y : D} (h : le x y) (k : le y x) : x = y := by
  unfold le at *
  rw [← h, meet_comm, k]
theorem meet_le_left (x y : D) : le (meet x y) x := by unfold le; rw [← meet_assoc, meet_self]
theorem meet_le_right (x y : D) : le (meet x y) y := by rw [meet_comm]; exact meet_le_left y x
theorem le_meet {x y z : D} (h : le z x) (k : le z y) : le z (meet x y) := by
  unfold le at *
  rw [meet_assoc, k, h]
theorem meet_eq_iff {x y : D} : meet x y = x ↔ le x y := by unfold le; rw [meet_comm]
theorem comp_mono {x x' y y' : D} (h : le x x') (k : le y y') : le (comp x y) (comp x' y') := by
  refine le_trans (y := comp x' y) ?_ ?_
  · unfold le at *; rw [← meet_comp, h]
  · unfold le at *; rw [← comp_meet, k]
theorem leV_refl (x : U) : leV x x := meetV_self x
theorem leV_top (x : U) : leV x topV := top_meetV x
theorem leV_trans {x y z : U} (h : leV x y) (k : leV y z) : leV x z := by
  unfold leV at *
  rw [← h, ← meetV_assoc, k]
theorem leV_antisymm {x y : U} (h : leV x y) (k : leV y x) : x = y := by
  unfold leV at *
  rw [← h, meetV_comm, k]
theorem meetV_le_left (x y : U) : leV (meetV x y) x := by unfold leV; rw [← meetV_assoc, meetV_self]
theorem meetV_le_right (x y : U) : leV (meetV x y) y := by rw [meetV_comm]; exact meetV_le_left y x
theorem le_meetV {x y z : U} (h : leV z x) (k : leV z y) : leV z (meetV x y) := by
  unfold leV at *
  rw [meetV_assoc, k, h]
theorem meetV_eq_iff {x y : U} : meetV x y = x ↔ leV x y := by unfold leV; rw [meetV_comm]
theorem app_mono {x x' : D} {v v' : U} (h : le x x') (k : leV v v') : leV (app x v) (app x' v') := by
  refine leV_trans (y := app x' v) ?_ ?_
  · unfold le leV at *; rw [← app_meet, h]
  · unfold leV at *; rw [← app_meetV, k]
def stp (x : D) : Nat := (Xf.steps x.1).toNat
theorem stp_meet (x y : D) (h : meet x y ≠ x) : stp (meet x y) < stp x := by
  have h1 := Xf.steps_nonneg (meet x y).1
  rcases Xf.steps_meet x.2.1 y.2.1 with h2 | h2
  · exact absurd (Subtype.ext h2) h
  · have h3 : Xf.steps (meet x y).1 < Xf.steps x.1 := h2
    unfold stp
    omega
theorem stp_mono {x y : D} (h : le x y) : stp x ≤ stp y := by
  by_cases e : x = y
  · rw [e]; exact Nat.le_refl _
  · have h1 : meet y x ≠ y := by rw [h]; exact e
    have h2 := stp_meet y x h1
    rw [h] at h2
    omega
def stpV (v : U) : Nat := if v.1.k = 0 then 2 else if v.1.k = 1 then 1 else 0
theorem stpV_key : ∀ (x y : Xf.V), (x = ⟨0, 0⟩ ∨ (∃ n, x = ⟨1, n⟩) ∨ x = ⟨2, 0⟩) → (y = ⟨0, 0⟩ ∨ (∃ n, y = ⟨1, n⟩) ∨ y = ⟨2, 0⟩) → Xf.meetV x y ≠ x →
    (if (Xf.meetV x y).k = 0 then 2 else if (Xf.meetV x y).k = 1 then 1 else 0) < (if x.k = 0 then 2 else if x.k = 1 then 1 else 0 : Nat) := by
  rintro x y (rfl | ⟨n, rfl⟩ | rfl) (rfl | ⟨m, rfl⟩ | rfl) h <;> simp [Xf.meetV] at h ⊢
  all_goals first | (rw [if_neg h]; simp; done) | (exfalso; exact h rfl) | skip
theorem stpV_meet (v w : U) (h : meetV v w ≠ v) : stpV (meetV v w) < stpV v :=
  stpV_key v.1 w.1 (Xf.validV_cases v.2.1) (Xf.validV_cases w.2.1) (fun e => h (Subtype.ext e))
theorem kind_top {x : D} : x.1.k = 0 ↔ x = top := by
  constructor
  · intro h
    refine Subtype.ext ?_
    rcases Xf.valid_cases x.2.1 with e | ⟨c, e⟩ | ⟨b, e⟩ | ⟨b, c, e⟩ | e <;> rw [e] at h ⊢ <;> first | rfl | (simp at h)
  · intro h; rw [h]; rfl
end Iv
end Go.Df
namespace Go.Df
open Go.RowKit
namespace If
open Sp
structure Pr where
  i : Int
  o : Int
deriving DecidableEq
structure Sd where
  n : Int
  f : Int
deriving DecidableEq
def gp (l : List Pr) (i : Nat) : Pr := l.getD i ⟨0, 0⟩
def gd (l : List Sd) (i : Nat) : Sd := l.getD i ⟨0, 0⟩
def gf (ls : List (List Pr)) (i : Nat) : List Pr := ls.getD i []
theorem gp_lt {l : List Pr} {i : Nat} (h : i < l.length) : gp l i = l[i] := by simp [gp, h]
theorem gd_lt {l : List Sd} {i : Nat} (h : i < l.length) : gd l i = l[i] := by simp [gd, h]
theorem mem_gp {l : List Pr} {q : Pr} (h : q ∈ l) : ∃ i, i < l.length ∧ gp l i = q := by
  obtain ⟨i, hi, rfl⟩ := List.getElem_of_mem h
  exact ⟨i, hi, gp_lt hi⟩
theorem mem_gd {l : List Sd} {q : Sd} (h : q ∈ l) : ∃ i, i < l.length ∧ gd l i = q := by
  obtain ⟨i, hi, rfl⟩ := List.getElem_of_mem h
  exact ⟨i, hi, gd_lt hi⟩
def lessR (a b : Pr) : Bool := if a.i ≠ b.i then decide (a.i < b.i) else decide (a.o < b.o)
def lessD (a b : Sd) : Bool := if a.n ≠ b.n then decide (a.n < b.n) else decide (a.f < b.f)
def prErr (F : Int) (l : List Pr) (j : Nat) : Int :=
  if (gp l j).i < 0 ∨ F ≤ (gp l j).i ∨ (gp l j).o < 0 ∨ F ≤ (gp l j).o then 4 else if 0 < j ∧ lessR (gp l (j - 1)) (gp l j) = false then 13 else 0
def flErr (F : Int) (l : List Pr) : Int :=
  if F < 1 ∨ 1024 < F then 4 else if 8192 < l.length then 3 else if fe (prErr F l) 0 l.length ≠ 0 then fe (prErr F l) 0 l.length else if l.length = 0 ∨ gp l 0 ≠ ⟨0, 0⟩ then 1 else 0
def sdErr (N : Nat) (F : Int) (l : List Sd) (j : Nat) : Int :=
  if (gd l j).n < 0 ∨ (N : Int) ≤ (gd l j).n ∨ (gd l j).f < 1 ∨ F ≤ (gd l j).f then 4 else if 0 < j ∧ lessD (gd l (j - 1)) (gd l j) = false then 13 else 0
structure Pb where
  ns : List Nd
  es : List Ed
  mn : Int
  F : Int
  fl : List (List Pr)
  sd : List Sd
def pbErr (p : Pb) : Int :=
  if superErr p.ns p.es p.mn ≠ 0 then superErr p.ns p.es p.mn else if p.F < 1 ∨ 1024 < p.F then 4 else if p.fl.length ≠ p.es.length then 20
  else if fe (fun i => flErr p.F (gf p.fl i)) 0 p.fl.length ≠ 0 then fe (fun i => flErr p.F (gf p.fl i)) 0 p.fl.length else fe (sdErr p.ns.length p.F p.sd) 0 p.sd.length
theorem pr_in {F : Int} {l : List Pr} {j : Nat} (h : prErr F l j = 0) : 0 ≤ (gp l j).i ∧ (gp l j).i < F ∧ 0 ≤ (gp l j).o ∧ (gp l j).o < F := by
  unfold prErr at h
  split at h
  · cases h
  · omega
structure Ok (p : Pb) : Prop where
  sup : superErr p.ns p.es p.mn = 0
  f1 : 1 ≤ p.F
  f2 : p.F ≤ 1024
  len : p.fl.length = p.es.length
  fl : ∀ k, k < p.fl.length → (gf p.fl k).length ≤ 8192 ∧ (∀ j, j < (gf p.fl k).length → prErr p.F (gf p.fl k) j = 0) ∧ 0 < (gf p.fl k).length ∧ gp (gf p.fl k) 0 = ⟨0, 0⟩
  sd : ∀ j, j < p.sd.length → sdErr p.ns.length p.F p.sd j = 0
theorem Ok.pair {p : Pb} (h : Ok p) {k : Nat} (hk : k < p.fl.length) {q : Pr} (hq : q ∈ gf p.fl k) : 0 ≤ q.i ∧ q.i < p.F ∧ 0 ≤ q.o ∧ q.o < p.F := by
  obtain ⟨j, hj, rfl⟩ := mem_gp hq
  exact pr_in ((h.fl k hk).2.1 j hj)
theorem Ok.seed {p : Pb} (h : Ok p) {s : Sd} (hs : s ∈ p.sd) : 0 ≤ s.n ∧ s.n < p.ns.length ∧ 1 ≤ s.f ∧ s.f < p.F := by
  obtain ⟨j, hj, rfl⟩ := mem_gd hs
  have := h.sd j hj
  unfold sdErr at this
  split at this
  · cases this
  · omega
theorem sup_parts {ns : List Nd} {es : List Ed} {m : Int} (h : superErr ns es m = 0) : ns.length ≤ 8192 ∧ es.length ≤ 32768 ∧ nodesErr ns m = 0 ∧ ∀ k, k < es.length → edgeErr ns es k = 0 := by
  unfold superErr at h
  split at h
  · cases h
  · split at h
    · rename_i h0; exact absurd h h0
    · rename_i h0
      exact ⟨by omega, by omega, Decidable.byContradiction h0, fun k hk => fe_zero _ _ h k (Nat.zero_le _) (by omega)⟩
theorem sup_edge {ns : List Nd} {es : List Ed} {m : Int} (h : superErr ns es m = 0) {k : Nat} (hk : k < es.length) :
    0 ≤ (ge es k).a ∧ (ge es k).a < ns.length ∧ 0 ≤ (ge es k).b ∧ (ge es k).b < ns.length ∧ 1 ≤ (ge es k).k ∧ (ge es k).k ≤ 5 ∧ ((ge es k).k ≠ 1 → (ge es k).k ≠ 5 → 0 ≤ (ge es k).c ∧ (ge es k).c < ns.length) ∧ fitsB ns es (ge es k) = true := by
  have := (sup_parts h).2.2.2 k hk
  unfold edgeErr at this
  split at this
  · cases this
  · split at this
    · cases this
    · split at this
      · cases this
      · split at this
        · cases this
        · split at this
          · cases this
          · rename_i h9
            refine ⟨by omega, by omega, by omega, by omega, by omega, by omega, fun h1 h2 => by omega, by simpa using h9⟩
inductive PE (p : Pb) : Nat → Nat → Nat → Prop
  | main : PE p 0 p.mn.toNat 0
  | seed {s : Sd} : PE p 0 s.n.toNat 0 → s ∈ p.sd → PE p 0 s.n.toNat s.f.toNat
  | flow {a k : Nat} {q : Pr} : k < p.es.length → ((ge p.es k).k = 1 ∨ (ge p.es k).k = 5) → q ∈ gf p.fl k → PE p a (ge p.es k).a.toNat q.i.toNat → PE p a (ge p.es k).b.toNat q.o.toNat
  | call {a k : Nat} {q : Pr} : k < p.es.length → (ge p.es k).k = 2 → q ∈ gf p.fl k → PE p a (ge p.es k).a.toNat q.i.toNat → PE p q.o.toNat (ge p.es k).b.toNat q.o.toNat
  | ret {a c r : Nat} {q s : Pr} : c < p.es.length → (ge p.es c).k = 2 → q ∈ gf p.fl c → r < p.es.length → ((ge p.es r).k = 3 ∨ (ge p.es r).k = 4) → s ∈ gf p.fl r → (ge p.es c).a = (ge p.es r).c →
      (gn p.ns (ge p.es c).b.toNat).f = (gn p.ns (ge p.es r).a.toNat).f → PE p a (ge p.es c).a.toNat q.i.toNat → PE p q.o.toNat (ge p.es r).a.toNat s.i.toNat → PE p a (ge p.es r).b.toNat s.o.toNat
theorem main_in {ns : List Nd} {m : Int} (h : nodesErr ns m = 0) : 0 ≤ m ∧ m < ns.length ∧ (gn ns m.toNat).k = 1 := by
  unfold nodesErr at h
  split at h
  · rename_i h0; exact absurd h h0
  · split at h
    · rename_i h0; exact absurd h h0
    · unfold mainErr at h
      split at h
      · cases h
      · omega
theorem PE.rng {p : Pb} (h : Ok p) {a n d : Nat} (hp : PE p a n d) : n < p.ns.length ∧ (a : Int) < p.F ∧ (d : Int) < p.F := by
  have f1 := h.f1
  have hm := main_in (sup_parts h.sup).2.2.1
  induction hp with
  | main => exact ⟨by omega, by omega, by omega⟩
  | seed _ hs ih => have := h.seed hs; exact ⟨by omega, by omega, by omega⟩
  | flow hk _ hq _ ih => have := h.pair (by rw [h.len]; exact hk) hq; have := sup_edge h.sup hk; exact ⟨by omega, by omega, by omega⟩
  | call hk _ hq _ ih => have := h.pair (by rw [h.len]; exact hk) hq; have := sup_edge h.sup hk; exact ⟨by omega, by omega, by omega⟩
  | ret hc _ _ hr _ hs _ _ _ _ ih1 ih2 => have := h.pair (by rw [h.len]; exact hr) hs; have := sup_edge h.sup hr; exact ⟨by omega, by omega, by omega⟩
end If
end Go.Df
namespace Go.Df
open Go.RowKit
namespace If
open Sp
def stOf (ns : List Nd) : Nat → Nat
  | 0 => 0
  | i + 1 => if (gn ns (i + 1)).k = 1 then i + 1 else stOf ns i
theorem stOf_le (ns : List Nd) : ∀ i, stOf ns i ≤ i
  | 0 => Nat.le_refl _
  | i + 1 => by
    rw [stOf]
    split
    · exact Nat.le_refl _
    · exact Nat.le_succ_of_le (stOf_le ns i)
theorem stOf_hit {ns : List Nd} {j : Nat} : ∀ {i : Nat}, j ≤ i → (gn ns j).k = 1 → j ≤ stOf ns i ∧ (gn ns (stOf ns i)).k = 1
  | 0, h, hk => by obtain rfl : j = 0 := by omega
                   exact ⟨Nat.zero_le _, hk⟩
  | i + 1, h, hk => by
    rw [stOf]
    split
    · rename_i h1; exact ⟨h, h1⟩
    · rename_i h1
      by_cases e : j = i + 1
      · subst e; exact absurd hk h1
      · exact stOf_hit (by omega) hk
structure NdOk (ns : List Nd) : Prop where
  err : ∀ x, x < ns.length → nodeErr ns x = 0
  st : ∀ x, x < ns.length → ∃ j, j < ns.length ∧ (gn ns j).f = (gn ns x).f ∧ (gn ns j).k = 1
theorem ndOk_of {ns : List Nd} {m : Int} (h : nodesErr ns m = 0) : NdOk ns := by
  unfold nodesErr at h
  split at h
  · rename_i h0; exact absurd h h0
  · rename_i h0
    split at h
    · rename_i h1; exact absurd h h1
    · rename_i h1
      refine ⟨fun x hx => fe_zero _ _ (Decidable.byContradiction h0) x (Nat.zero_le _) (by omega), fun x hx => ?_⟩
      have h2 := fe_zero _ _ (Decidable.byContradiction h1) x (Nat.zero_le _) (by omega)
      unfold wholeErr at h2
      split at h2
      · cases h2
      · rename_i h3
        refine Classical.byContradiction fun h4 => h3 (.inl (kind_neg.2 fun j hj hh => h4 ⟨j, hj, hh.1, hh.2⟩))
theorem NdOk.kind {ns : List Nd} (h : NdOk ns) {x : Nat} (hx : x < ns.length) : 1 ≤ (gn ns x).k ∧ (gn ns x).k ≤ 4 := by
  have := h.err x hx
  unfold nodeErr at this
  split at this
  · cases this
  · omega
theorem NdOk.le {ns : List Nd} (h : NdOk ns) {i j : Nat} (hij : i ≤ j) (hj : j < ns.length) : (gn ns i).f ≤ (gn ns j).f := by
  by_cases e : i = j
  · rw [e]; exact Int.le_refl _
  · have := node_asc h.err j i (by omega) hj
    unfold lessN at this
    split at this
    · have := of_decide_eq_true this; omega
    · omega
theorem NdOk.ahead {ns : List Nd} (h : NdOk ns) {j x : Nat} (hj : j < ns.length) (hx : x < ns.length) (hf : (gn ns j).f = (gn ns x).f) (hk : (gn ns j).k = 1) : j ≤ x := by
  rcases Nat.lt_or_ge x j with h1 | h1
  · have h2 := node_asc h.err j x h1 hj
    have h3 := h.kind hx
    unfold lessN at h2
    rw [if_neg (by rw [hf]; simp)] at h2
    split at h2
    · have := of_decide_eq_true h2; omega
    · rename_i h4
      have h5 : (gn ns x).k = 1 := by rw [← hk]; exact Decidable.byContradiction h4
      have := of_decide_eq_true h2
      rw [node_i (h.err x hx) (by omega), node_i (h.err j hj) (by omega)] at this
      omega
  · exact h1
theorem NdOk.start {ns : List Nd} (h : NdOk ns) {x : Nat} (hx : x < ns.length) : (gn ns (stOf ns x)).f = (gn ns x).f ∧ (gn ns (stOf ns x)).k = 1 := by
  obtain ⟨j, hj, hf, hk⟩ := h.st x hx
  have h1 := h.ahead hj hx hf hk
  obtain ⟨h2, h3⟩ := stOf_hit h1 hk
  have h4 := stOf_le ns x
  have h5 := h.le h2 (by omega)
  have h6 := h.le h4 hx
  exact ⟨by omega, h3⟩
theorem NdOk.start_iff {ns : List Nd} (h : NdOk ns) {x s : Nat} (hx : x < ns.length) (hs : s < ns.length) (hk : (gn ns s).k = 1) : stOf ns x = s ↔ (gn ns s).f = (gn ns x).f := by
  have h1 := h.start hx
  constructor
  · rintro rfl; exact h1.1
  · intro hf
    have hl : stOf ns x < ns.length := by have := stOf_le ns x; omega
    have h2 := h.ahead hs hl (by rw [hf, h1.1]) hk
    have h3 := h.ahead hl hs (by rw [hf, h1.1]) h1.2
    omega
theorem Ok.nd {p : Pb} (h : Ok p) : NdOk p.ns := ndOk_of (sup_parts h.sup).2.2.1
theorem Ok.edge {p : Pb} (h : Ok p) {k : Nat} (hk : k < p.es.length) :
    0 ≤ (ge p.es k).a ∧ (ge p.es k).a < p.ns.length ∧ 0 ≤ (ge p.es k).b ∧ (ge p.es k).b < p.ns.length ∧ 1 ≤ (ge p.es k).k ∧ (ge p.es k).k ≤ 5 ∧ ((ge p.es k).k ≠ 1 → (ge p.es k).k ≠ 5 → 0 ≤ (ge p.es k).c ∧ (ge p.es k).c < p.ns.length) ∧ fitsB p.ns p.es (ge p.es k) = true := sup_edge h.sup hk
theorem Ok.call {p : Pb} (h : Ok p) {k : Nat} (hk : k < p.es.length) (h2 : (ge p.es k).k = 2) : (gn p.ns (ge p.es k).b.toNat).k = 1 ∧ (gn p.ns (ge p.es k).a.toNat).k = 2 ∧ (ge p.es k).c = (ge p.es k).a := by
  have h1 := (h.edge hk).2.2.2.2.2.2.2
  unfold fitsB fitsN at h1
  rw [if_neg (by omega), if_pos h2] at h1
  simp at h1
  exact ⟨h1.2, h1.1.1, h1.1.2⟩
theorem Ok.ret {p : Pb} (h : Ok p) {k : Nat} (hk : k < p.es.length) (h2 : (ge p.es k).k = 3 ∨ (ge p.es k).k = 4) : (gn p.ns (ge p.es k).a.toNat).k = 3 ∨ (gn p.ns (ge p.es k).a.toNat).k = 4 := by
  have h1 := (h.edge hk).2.2.2.2.2.2.2
  unfold fitsB fitsN at h1
  rw [if_neg (by omega), if_neg (by omega)] at h1
  split at h1
  · cases h1
  · omega
structure Clo (p : Pb) (T : Nat → Nat → Nat → Prop) : Prop where
  main : T 0 p.mn.toNat 0
  seed : ∀ s ∈ p.sd, T 0 s.n.toNat 0 → T 0 s.n.toNat s.f.toNat
  flow : ∀ k, k < p.es.length → ((ge p.es k).k = 1 ∨ (ge p.es k).k = 5) → ∀ q ∈ gf p.fl k, ∀ a, T a (ge p.es k).a.toNat q.i.toNat → T a (ge p.es k).b.toNat q.o.toNat
  call : ∀ k, k < p.es.length → (ge p.es k).k = 2 → ∀ q ∈ gf p.fl k, ∀ a, T a (ge p.es k).a.toNat q.i.toNat → T q.o.toNat (ge p.es k).b.toNat q.o.toNat
  ret : ∀ c, c < p.es.length → (ge p.es c).k = 2 → ∀ q ∈ gf p.fl c, ∀ r, r < p.es.length → ((ge p.es r).k = 3 ∨ (ge p.es r).k = 4) → ∀ s ∈ gf p.fl r, (ge p.es c).a = (ge p.es r).c → (gn p.ns (ge p.es c).b.toNat).f = (gn p.ns (ge p.es r).a.toNat).f →
    ∀ a, T a (ge p.es c).a.toNat q.i.toNat → T q.o.toNat (ge p.es r).a.toNat s.i.toNat → T a (ge p.es r).b.toNat s.o.toNat
theorem Clo.all {p : Pb} {T : Nat → Nat → Nat → Prop} (h : Clo p T) {a n d : Nat} (hp : PE p a n d) : T a n d := by
  induction hp with
  | main => exact h.main
  | seed _ hs ih => exact h.seed _ hs ih
  | flow hk hk2 hq _ ih => exact h.flow _ hk hk2 _ hq _ ih
  | call hk hk2 hq _ ih => exact h.call _ hk hk2 _ hq _ ih
  | ret hc hc2 hq hr hr2 hs e1 e2 _ _ ih1 ih2 => exact h.ret _ hc hc2 _ hq _ hr hr2 _ hs e1 e2 _ ih1 ih2
end If
end Go.Df
namespace Go.Df
open Go.RowKit
namespace If
open Sp
structure St where
  h : Nat → Nat → Nat → Bool
  e : Nat → Nat → Nat → Bool
  pd : Nat → List (Nat × Nat)
  q : List Nat
def St.add (s : St) (n a d : Nat) : St :=
  if s.h n a d = true then s else
    ⟨fun n' a' d' => s.h n' a' d' || (n' == n && (a' == a && d' == d)), s.e, fun n' => if n' = n then s.pd n ++ [(a, d)] else s.pd n', if s.pd n = [] then s.q ++ [n] else s.q⟩
def St.ent (s : St) (k b a : Nat) : St := ⟨s.h, fun k' b' a' => s.e k' b' a' || (k' == k && (b' == b && a' == a)), s.pd, s.q⟩
def froms (l : List Pr) (d : Nat) : List Pr := l.filter fun q => q.i == (d : Int)
def elems (F : Nat) (f : Nat → Bool) : List Nat := (List.range F).filter f
def outL (p : Pb) (n : Nat) : List Nat := (List.range p.es.length).filter fun k => (ge p.es k).a == (n : Int)
def callL (p : Pb) (n : Nat) : List Nat := (List.range p.es.length).filter fun k => (ge p.es k).k == 2 && (ge p.es k).b == (n : Int)
def retL (p : Pb) (n : Nat) : List Nat := (List.range p.es.length).filter fun k => ((ge p.es k).k == 3 || (ge p.es k).k == 4) && (ge p.es k).c == (n : Int)
def seedL (p : Pb) (n : Nat) : List Sd := p.sd.filter fun s => s.n == (n : Int)
def spread (p : Pb) (k a d : Nat) (s : St) : St := (froms (gf p.fl k) d).foldl (fun s q => s.add (ge p.es k).b.toNat a q.o.toNat) s
def enterR (p : Pb) (k a b : Nat) (s : St) (r : Nat) : St :=
  if stOf p.ns (ge p.es r).a.toNat = (ge p.es k).b.toNat then (elems p.F.toNat (s.h (ge p.es r).a.toNat b)).foldl (fun s f => spread p r a f s) s else s
def enter1 (p : Pb) (k a b : Nat) (s : St) : St :=
  if (s.add (ge p.es k).b.toNat b b).e k b a = true then s.add (ge p.es k).b.toNat b b else (retL p (ge p.es k).a.toNat).foldl (enterR p k a b) ((s.add (ge p.es k).b.toNat b b).ent k b a)
def enter (p : Pb) (k a d : Nat) (s : St) : St := (froms (gf p.fl k) d).foldl (fun s q => enter1 p k a q.o.toNat s) s
def leaveR (p : Pb) (n d : Nat) (cs : List Nat) (s : St) (r : Nat) : St := if (ge p.es r).a.toNat = n then cs.foldl (fun s a => spread p r a d s) s else s
def leave1 (p : Pb) (n b d : Nat) (s : St) (k : Nat) : St := (retL p (ge p.es k).a.toNat).foldl (leaveR p n d (elems p.F.toNat (s.e k b))) s
def leave (p : Pb) (n b d : Nat) (s : St) : St := (callL p (stOf p.ns n)).foldl (leave1 p n b d) s
def stepE (p : Pb) (a d : Nat) (s : St) (k : Nat) : St := if (ge p.es k).k = 1 ∨ (ge p.es k).k = 5 then spread p k a d s else if (ge p.es k).k = 2 then enter p k a d s else s
def stepA (p : Pb) (n a d : Nat) (s : St) : St := if a = 0 ∧ d = 0 then (seedL p n).foldl (fun s x => s.add n 0 x.f.toNat) s else s
def step (p : Pb) (n a d : Nat) (s : St) : St :=
  if (gn p.ns n).k = 3 ∨ (gn p.ns n).k = 4 then leave p n a d ((outL p n).foldl (stepE p a d) (stepA p n a d s)) else (outL p n).foldl (stepE p a d) (stepA p n a d s)
structure Le (s t : St) : Prop where
  h : ∀ n a d, s.h n a d = true → t.h n a d = true
  e : ∀ k b a, s.e k b a = true → t.e k b a = true
  pd : ∀ n x, x ∈ s.pd n → x ∈ t.pd n
  new : ∀ n a d, t.h n a d = true → s.h n a d = true ∨ (a, d) ∈ t.pd n
  old : ∀ n x, x ∈ t.pd n → x ∈ s.pd n ∨ s.h n x.1 x.2 = false
theorem Le.refl (s : St) : Le s s := ⟨fun _ _ _ h => h, fun _ _ _ h => h, fun _ _ h => h, fun _ _ _ h => .inl h, fun _ _ h => .inl h⟩
theorem Le.trans {s t u : St} (h : Le s t) (g : Le t u) : Le s u := by
  refine ⟨fun n a d x => g.h _ _ _ (h.h _ _ _ x), fun n a d x => g.e _ _ _ (h.e _ _ _ x), fun n x y => g.pd _ _ (h.pd _ _ y), fun n a d x => ?_, fun n x y => ?_⟩
  · rcases g.new _ _ _ x with y | y
    · rcases h.new _ _ _ y with z | z
      · exact .inl z
      · exact .inr (g.pd _ _ z)
    · exact .inr y
  · rcases g.old _ _ y with z | z
    · exact h.old _ _ z
    · refine .inr ?_
      cases hh : s.h n x.1 x.2 with
      | false => rfl
      | true => rw [h.h _ _ _ hh] at z; cases z
theorem mem_froms {l : List Pr} {d : Nat} {q : Pr} : q ∈ froms l d ↔ q ∈ l ∧ q.i = d := by simp [froms]
structure Snd (p : Pb) (s : St) : Prop where
  h : ∀ n a d, s.h n a d = true → PE p a n d
  e : ∀ k b a, s.e k b a = true → k < p.es.length ∧ (ge p.es k).k = 2 ∧ ∃ q ∈ gf p.fl k, q.o.toNat = b ∧ PE p a (ge p.es k).a.toNat q.i.toNat
theorem Snd.add {p : Pb} {s : St} (h : Snd p s) {n a d : Nat} (hp : PE p a n d) : Snd p (s.add n a d) := by
  unfold St.add
  split
  · exact h
  · refine ⟨fun n' a' d' h' => ?_, h.e⟩
    simp at h'
    rcases h' with h' | ⟨rfl, rfl, rfl⟩
    · exact h.h _ _ _ h'
    · exact hp
theorem fold_snd {p : Pb} {α : Type} {f : St → α → St} : ∀ (l : List α) (s : St), (∀ x ∈ l, ∀ t, Snd p t → Snd p (f t x)) → Snd p s → Snd p (l.foldl f s)
  | [], _, _, h => h
  | x :: l, s, hf, h => fold_snd l _ (fun y hy => hf y (by simp [hy])) (hf x (by simp) s h)
theorem outL_mem {p : Pb} {n k : Nat} : k ∈ outL p n ↔ k < p.es.length ∧ (ge p.es k).a = n := by simp [outL]
theorem callL_mem {p : Pb} {n k : Nat} : k ∈ callL p n ↔ k < p.es.length ∧ (ge p.es k).k = 2 ∧ (ge p.es k).b = n := by simp [callL]
theorem retL_mem {p : Pb} {n k : Nat} : k ∈ retL p n ↔ k < p.es.length ∧ ((ge p.es k).k = 3 ∨ (ge p.es k).k = 4) ∧ (ge p.es k).c = n := by simp [retL]
theorem elems_mem {F : Nat} {f : Nat → Bool} {x : Nat} : x ∈ elems F f ↔ x < F ∧ f x = true := by simp [elems]
theorem spread_ret {p : Pb} (ho : Ok p) {k r a b d : Nat} (hr : r < p.es.length) (hr2 : (ge p.es r).k = 3 ∨ (ge p.es r).k = 4) (he : k < p.es.length ∧ (ge p.es k).k = 2 ∧ ∃ q ∈ gf p.fl k, q.o.toNat = b ∧ PE p a (ge p.es k).a.toNat q.i.toNat)
    (hc : (ge p.es r).c = (ge p.es k).a) (hf : stOf p.ns (ge p.es r).a.toNat = (ge p.es k).b.toNat) (hp : PE p b (ge p.es r).a.toNat d) {s : St} (h : Snd p s) : Snd p (spread p r a d s) := by
  obtain ⟨hk, hk2, q0, hq0, hb, hp0⟩ := he
  have h1 := ho.edge hr
  have h2 := ho.edge hk
  have h3 := (ho.nd.start_iff (x := (ge p.es r).a.toNat) (s := (ge p.es k).b.toNat) (by omega) (by omega) (ho.call hk hk2).1).1 hf
  refine fold_snd _ s (fun q hq t ht => ht.add ?_) h
  obtain ⟨h4, h5⟩ := mem_froms.1 hq
  exact .ret hk hk2 hq0 hr hr2 h4 hc.symm h3 hp0 (by rw [h5, Int.toNat_natCast, hb]; exact hp)
theorem enter_snd {p : Pb} (ho : Ok p) {k a d : Nat} (hk : k < p.es.length) (hk2 : (ge p.es k).k = 2) (hp : PE p a (ge p.es k).a.toNat d) {s : St} (h : Snd p s) : Snd p (enter p k a d s) := by
  refine fold_snd _ s (fun q hq t ht => ?_) h
  obtain ⟨h2, h3⟩ := mem_froms.1 hq
  have hp' : PE p a (ge p.es k).a.toNat q.i.toNat := by rw [h3, Int.toNat_natCast]; exact hp
  have h4 := ht.add (PE.call hk hk2 h2 hp')
  unfold enter1
  split
  · exact h4
  · have he : k < p.es.length ∧ (ge p.es k).k = 2 ∧ ∃ q' ∈ gf p.fl k, q'.o.toNat = q.o.toNat ∧ PE p a (ge p.es k).a.toNat q'.i.toNat := ⟨hk, hk2, q, h2, rfl, hp'⟩
    refine fold_snd _ _ (fun r hr t ht => ?_) ⟨h4.h, fun k' b' a' h' => ?_⟩
    · obtain ⟨r1, r2, r3⟩ := retL_mem.1 hr
      unfold enterR
      split
      · rename_i hst
        refine fold_snd _ _ (fun f hf u hu => ?_) ht
        refine spread_ret ho r1 r2 he ?_ hst (ht.h _ _ _ (elems_mem.1 hf).2) hu
        have := ho.edge hk
        omega
      · exact ht
    · simp [St.ent] at h'
      rcases h' with h' | ⟨rfl, rfl, rfl⟩
      · exact h4.e _ _ _ h'
      · exact he
theorem leave_snd {p : Pb} (ho : Ok p) {n b d : Nat} (_hn : n < p.ns.length) (hp : PE p b n d) {s : St} (h : Snd p s) : Snd p (leave p n b d s) := by
  refine fold_snd _ s (fun k hk t ht => ?_) h
  obtain ⟨k1, k2, k3⟩ := callL_mem.1 hk
  refine fold_snd _ t (fun r hr u hu => ?_) ht
  obtain ⟨r1, r2, r3⟩ := retL_mem.1 hr
  unfold leaveR
  split
  · rename_i hrn
    refine fold_snd _ u (fun a ha v hv => ?_) hu
    have := ho.edge k1
    refine spread_ret ho r1 r2 (ht.e _ _ _ (elems_mem.1 ha).2) (by omega) (by rw [hrn]; omega) (by rw [hrn]; exact hp) hv
  · exact hu
structure Cp (p : Pb) (s : St) (D : Nat → Nat → Nat → Prop) : Prop where
  seed : ∀ n, D n 0 0 → ∀ x ∈ p.sd, x.n = n → s.h n 0 x.f.toNat = true
  flow : ∀ n a d, D n a d → ∀ k, k < p.es.length → ((ge p.es k).k = 1 ∨ (ge p.es k).k = 5) → (ge p.es k).a = n → ∀ q ∈ gf p.fl k, q.i = d → s.h (ge p.es k).b.toNat a q.o.toNat = true
  call : ∀ n a d, D n a d → ∀ k, k < p.es.length → (ge p.es k).k = 2 → (ge p.es k).a = n → ∀ q ∈ gf p.fl k, q.i = d → s.h (ge p.es k).b.toNat q.o.toNat q.o.toNat = true ∧ s.e k q.o.toNat a = true
  ret : ∀ k b a, s.e k b a = true → ∀ r, r < p.es.length → ((ge p.es r).k = 3 ∨ (ge p.es r).k = 4) → (ge p.es r).c = (ge p.es k).a → stOf p.ns (ge p.es r).a.toNat = (ge p.es k).b.toNat → ∀ d, D (ge p.es r).a.toNat b d → ∀ q ∈ gf p.fl r, q.i = d → s.h (ge p.es r).b.toNat a q.o.toNat = true
def Dn (s : St) (n : Nat) (rest : List (Nat × Nat)) (n' a d : Nat) : Prop := s.h n' a d = true ∧ (a, d) ∉ s.pd n' ∧ ¬ (n' = n ∧ (a, d) ∈ rest)
def CpR (p : Pb) (s : St) (D : Nat → Nat → Nat → Prop) : Prop := ∀ k b a, s.e k b a = true → ∀ r, r < p.es.length → ((ge p.es r).k = 3 ∨ (ge p.es r).k = 4) → (ge p.es r).c = (ge p.es k).a → stOf p.ns (ge p.es r).a.toNat = (ge p.es k).b.toNat → ∀ d, D (ge p.es r).a.toNat b d → ∀ q ∈ gf p.fl r, q.i = d → s.h (ge p.es r).b.toNat a q.o.toNat = true
theorem CpR.mono {p : Pb} {s t : St} {D : Nat → Nat → Nat → Prop} (h : CpR p s D) (hl : Le s t) (he : t.e = s.e) : CpR p t D := fun k b a hk r r1 r2 r3 r4 d hd q hq hi => hl.h _ _ _ (h k b a (by rw [← he]; exact hk) r r1 r2 r3 r4 d hd q hq hi)
end If
end Go.Df
