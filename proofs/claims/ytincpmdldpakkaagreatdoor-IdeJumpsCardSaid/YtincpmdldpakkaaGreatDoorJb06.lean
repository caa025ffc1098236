/- Texts: Ba Be Ia Sj. -/
import Derived.IntWalk
import Derived.Test.YtincpmdldpakkaaGreatDoorJb05
namespace Go.Proofs.YtincpmdldpakkaaGreatDoor.Xf
open Go.RowKit
structure X where
 k : Int
 b : Int
 c : Int
structure V where
 k : Int
 n : Int
instance : DecidableEq X := fun x y =>
 if h : x.k = y.k ∧ x.b = y.b ∧ x.c = y.c then isTrue (by cases x; cases y; simp_all) else isFalse (by rintro rfl; exact h ⟨rfl, rfl, rfl⟩)
instance : DecidableEq V := fun v w =>
 if h : v.k = w.k ∧ v.n = w.n then isTrue (by cases v; cases w; simp_all) else isFalse (by rintro rfl; exact h ⟨rfl, rfl⟩)
def check (x : X) : Int :=
 if x.k = 3 then 0 else if x.k = 0 ∨ x.k = 4 then (if x.c ≠ 0 then 1 else if x.b ≠ 0 then 1 else 0)
 else if x.k = 1 then (if x.b ≠ 0 then 1 else 0) else if x.k = 2 then (if x.c ≠ 0 then 1 else 0) else 12
def rcheck (x : X) : Int :=
 if x.k < 0 ∨ x.k > 4 then 12 else
 if (x.b ≠ 0 ∧ x.k ≠ 2 ∧ x.k ≠ 3) ∨ (x.c ≠ 0 ∧ x.k ≠ 1 ∧ x.k ≠ 3) then 1 else 0
def checkV (v : V) : Int := if v.k = 0 ∨ v.k = 2 then (if v.n ≠ 0 then 1 else 0) else if v.k = 1 then 0 else 12
def rcheckV (v : V) : Int := if v.k < 0 ∨ v.k > 2 then 12 else if v.n ≠ 0 ∧ v.k ≠ 1 then 1 else 0
def sum (v : V) (b : Int) : V := if v.k = 1 then ⟨1, wrap64 (v.n + b)⟩ else v
def meetV (v w : V) : V := if v = w ∨ w.k = 0 then v else if v.k = 0 then w else ⟨2, 0⟩
def rmeetV (v w : V) : V := if v.k = 0 then w else if w.k = 0 ∨ v = w then v else ⟨2, 0⟩
def apply (x : X) (v : V) : V :=
 if v.k = 0 then ⟨0, 0⟩ else if x.k = 0 then ⟨0, 0⟩ else if x.k = 1 then ⟨1, x.c⟩ else if x.k = 2 then sum v x.b
 else if x.k = 3 then meetV (sum v x.b) ⟨1, x.c⟩ else ⟨2, 0⟩
def rapply (x : X) (v : V) : V :=
 if v.k = 0 then v else if x.k = 0 then ⟨0, 0⟩ else if x.k = 1 then ⟨1, x.c⟩ else if x.k = 2 then sum v x.b
 else if x.k = 3 then rmeetV (sum v x.b) ⟨1, x.c⟩ else ⟨2, 0⟩
def shifted (x : X) (n : Int) : X :=
 if x.k = 1 then ⟨1, 0, wrap64 (x.c + n)⟩ else if x.k = 2 then ⟨2, wrap64 (x.b + n), 0⟩
 else if x.k = 3 then ⟨3, wrap64 (x.b + n), wrap64 (x.c + n)⟩ else ⟨4, 0, 0⟩
def compose (x y : X) : X :=
 if x.k = 0 ∨ y.k = 0 then ⟨0, 0, 0⟩ else if y.k = 1 then y else if y.k = 2 then shifted x y.b
 else if y.k = 3 then
   (let f := shifted x y.b
    if f.k = 2 then ⟨3, f.b, y.c⟩ else if f.k = 1 ∨ f.k = 3 then (if f.c = y.c then f else ⟨4, 0, 0⟩) else ⟨4, 0, 0⟩)
 else ⟨4, 0, 0⟩
def rcompose (x y : X) : X :=
 if x.k = 0 ∨ y.k = 0 then ⟨0, 0, 0⟩ else if y.k = 1 ∨ y.k = 4 then y else if x.k = 4 then x
 else if x.k = 1 then (let v := rapply y ⟨1, x.c⟩; if v.k = 1 then ⟨1, 0, v.n⟩ else ⟨4, 0, 0⟩)
 else if x.k = 2 then ⟨y.k, wrap64 (x.b + y.b), y.c⟩
 else (let v := rapply y ⟨1, x.c⟩; if v.k = 1 then ⟨3, wrap64 (x.b + y.b), v.n⟩ else ⟨4, 0, 0⟩)
def meet (x y : X) : X :=
 if x = y ∨ y.k = 0 then x else if x.k = 0 then y else if x.k = 4 ∨ y.k = 4 then ⟨4, 0, 0⟩
 else if x.k ≠ 1 ∧ y.k ≠ 1 ∧ y.b ≠ x.b then ⟨4, 0, 0⟩
 else if x.k ≠ 2 ∧ y.k ≠ 2 ∧ y.c ≠ x.c then ⟨4, 0, 0⟩
 else ⟨3, if y.k ≠ 1 then y.b else if x.k ≠ 1 then x.b else 0, if y.k ≠ 2 then y.c else if x.k ≠ 2 then x.c else 0⟩
def rmeet1 (x y : X) : X :=
 if x.k = 1 ∧ y.k = 2 then ⟨3, y.b, x.c⟩ else if x.k = 1 ∧ y.k = 3 ∧ x.c = y.c then y
 else if x.k = 2 ∧ y.k = 3 ∧ x.b = y.b then y else ⟨4, 0, 0⟩
def rmeet (x y : X) : X :=
 if x.k = 0 then y else if y.k = 0 ∨ x = y then x else if x.k > y.k then rmeet1 y x else rmeet1 x y
def below (v w : V) : Bool := w.k = 0 ∨ v.k = 2 ∨ v = w
def rbelow (v w : V) : Bool := v = w ∨ v.k = 2 ∨ w.k = 0
def steps (x : X) : Int := if x.k = 0 then 3 else if x.k = 1 ∨ x.k = 2 then 2 else if x.k = 3 then 1 else 0
theorem rmeet_swap {x y : X} (h : y.k < x.k) (hx : ¬ x.k = 0) (hy : ¬ y.k = 0) : rmeet y x = rmeet x y := by
 have e1 : ¬ y = x := by rintro rfl; omega
 have e2 : ¬ x = y := fun e => e1 e.symm
 have e3 : ¬ x.k < y.k := by omega
 simp [rmeet, hx, hy, e1, e2, e3, h]
theorem valid_cases {x : X} (h : rcheck x = 0) : x = ⟨0, 0, 0⟩ ∨ (∃ c, x = ⟨1, 0, c⟩) ∨ (∃ b, x = ⟨2, b, 0⟩) ∨ (∃ b c, x = ⟨3, b, c⟩) ∨ x = ⟨4, 0, 0⟩ := by
 obtain ⟨k, b, c⟩ := x
 simp only [rcheck] at h
 split at h
 · omega
 · split at h
   · omega
   · rename_i h1 h2
     simp only [not_or, not_and, Int.not_lt] at h1 h2
     obtain ⟨h1a, h1b⟩ := h1
     have hk : k = 0 ∨ k = 1 ∨ k = 2 ∨ k = 3 ∨ k = 4 := by omega
     rcases hk with rfl | rfl | rfl | rfl | rfl <;> simp_all
theorem validV_cases {v : V} (h : rcheckV v = 0) : v = ⟨0, 0⟩ ∨ (∃ n, v = ⟨1, n⟩) ∨ v = ⟨2, 0⟩ := by
 obtain ⟨k, n⟩ := v
 simp only [rcheckV] at h
 split at h
 · omega
 · split at h
   · omega
   · rename_i h1 h2
     simp only [not_or, not_and, Int.not_lt] at h1 h2
     obtain ⟨h1a, h1b⟩ := h1
     have hk : k = 0 ∨ k = 1 ∨ k = 2 := by omega
     rcases hk with rfl | rfl | rfl <;> simp_all
theorem wrap_add (a b : Int) : wrap64 (wrap64 a + b) = wrap64 (a + b) := by unfold wrap64; omega
theorem wrap_add' (a b : Int) : wrap64 (a + wrap64 b) = wrap64 (a + b) := by unfold wrap64; omega
theorem wrap_inj {a b n : Int} (ha : wrap64 a = a) (hb : wrap64 b = b) : wrap64 (a + n) = wrap64 (b + n) ↔ a = b := by
 unfold wrap64 at *
 constructor <;> intro h <;> omega
theorem compose_eq {x y : X} (hx : rcheck x = 0) (hy : rcheck y = 0) : rcompose x y = compose x y := by
 rcases valid_cases hx with rfl | ⟨c, rfl⟩ | ⟨b, rfl⟩ | ⟨b, c, rfl⟩ | rfl <;> rcases valid_cases hy with rfl | ⟨c', rfl⟩ | ⟨b', rfl⟩ | ⟨b', c', rfl⟩ | rfl <;>
   simp [rcompose, compose, shifted, rapply, sum, rmeetV]
 all_goals (repeat' split) <;> simp_all
theorem meet_eq {x y : X} (hx : rcheck x = 0) (hy : rcheck y = 0) : rmeet x y = meet x y := by
 rcases valid_cases hx with rfl | ⟨c, rfl⟩ | ⟨b, rfl⟩ | ⟨b, c, rfl⟩ | rfl <;> rcases valid_cases hy with rfl | ⟨c', rfl⟩ | ⟨b', rfl⟩ | ⟨b', c', rfl⟩ | rfl <;>
   simp [rmeet, rmeet1, meet]
 all_goals grind
/- The lattice laws, on valid transformers whose numbers fit. -/
def fits (x : X) : Prop := wrap64 x.b = x.b ∧ wrap64 x.c = x.c
theorem check_compose {x y : X} (hx : rcheck x = 0) (hy : rcheck y = 0) : rcheck (compose x y) = 0 := by
 rcases valid_cases hx with rfl | ⟨c, rfl⟩ | ⟨b, rfl⟩ | ⟨b, c, rfl⟩ | rfl <;> rcases valid_cases hy with rfl | ⟨c', rfl⟩ | ⟨b', rfl⟩ | ⟨b', c', rfl⟩ | rfl <;>
   simp [compose, shifted]
 all_goals (repeat' split) <;> simp [rcheck]
theorem check_meet {x y : X} (hx : rcheck x = 0) (hy : rcheck y = 0) : rcheck (meet x y) = 0 := by
 rcases valid_cases hx with rfl | ⟨c, rfl⟩ | ⟨b, rfl⟩ | ⟨b, c, rfl⟩ | rfl <;> rcases valid_cases hy with rfl | ⟨c', rfl⟩ | ⟨b', rfl⟩ | ⟨b', c', rfl⟩ | rfl <;>
   simp [meet]
 all_goals (repeat' split) <;> simp [rcheck]
def add64 (a b : Int) : Int := wrap64 (a + b)
theorem add64_def (a b : Int) : wrap64 (a + b) = add64 a b := rfl
theorem add64_assoc (a b c : Int) : add64 (add64 a b) c = add64 a (add64 b c) := by unfold add64; rw [wrap_add, wrap_add', Int.add_assoc]
theorem add64_shift {a m n c : Int} (h : wrap64 c = c) : add64 a (add64 m n) = add64 c n ↔ add64 a m = c := by
 unfold add64
 rw [wrap_add']
 unfold wrap64 at *
 constructor <;> intro h' <;> omega
theorem add64_left {n a c : Int} (h : wrap64 a = a) (k : wrap64 c = c) : add64 n a = add64 n c ↔ a = c := by
 unfold add64 wrap64 at *
 constructor <;> intro h' <;> omega
set_option maxHeartbeats 2000000 in
theorem compose_assoc {x y z : X} (hx : rcheck x = 0) (hy : rcheck y = 0) (hz : rcheck z = 0) (fx : fits x) (fy : fits y) : compose (compose x y) z = compose x (compose y z) := by
 have W2 : ∀ a m n c, wrap64 c = c → (add64 a (add64 m n) = add64 c n ↔ add64 a m = c) := fun a m n c h => add64_shift h
 have W1 : ∀ a n c, wrap64 a = a → wrap64 c = c → (add64 a n = add64 c n ↔ a = c) := fun a n c h k => wrap_inj h k
 have W3 : ∀ a m n, add64 (add64 a m) n = add64 a (add64 m n) := add64_assoc
 rcases valid_cases hx with rfl | ⟨c, rfl⟩ | ⟨b, rfl⟩ | ⟨b, c, rfl⟩ | rfl <;> rcases valid_cases hy with rfl | ⟨c', rfl⟩ | ⟨b', rfl⟩ | ⟨b', c', rfl⟩ | rfl <;> rcases valid_cases hz with rfl | ⟨c2, rfl⟩ | ⟨b2, rfl⟩ | ⟨b2, c2, rfl⟩ | rfl <;>
   simp [compose, shifted, add64_def, add64_assoc]
 all_goals simp only [fits] at *
 all_goals grind
set_option maxHeartbeats 2000000 in
theorem meet_assoc {x y z : X} (hx : rcheck x = 0) (hy : rcheck y = 0) (hz : rcheck z = 0) : meet (meet x y) z = meet x (meet y z) := by
 have W2 : ∀ a m n c, wrap64 c = c → (add64 a (add64 m n) = add64 c n ↔ add64 a m = c) := fun a m n c h => add64_shift h
 have W1 : ∀ a n c, wrap64 a = a → wrap64 c = c → (add64 a n = add64 c n ↔ a = c) := fun a n c h k => wrap_inj h k
 have W3 : ∀ a m n, add64 (add64 a m) n = add64 a (add64 m n) := add64_assoc
 rcases valid_cases hx with rfl | ⟨c, rfl⟩ | ⟨b, rfl⟩ | ⟨b, c, rfl⟩ | rfl <;> rcases valid_cases hy with rfl | ⟨c', rfl⟩ | ⟨b', rfl⟩ | ⟨b', c', rfl⟩ | rfl <;> rcases valid_cases hz with rfl | ⟨c2, rfl⟩ | ⟨b2, rfl⟩ | ⟨b2, c2, rfl⟩ | rfl <;>
   simp [meet]
 all_goals grind
set_option maxHeartbeats 2000000 in
theorem compose_meet {x y z : X} (hx : rcheck x = 0) (hy : rcheck y = 0) (hz : rcheck z = 0) (fy : fits y) (fz : fits z) : compose x (meet y z) = meet (compose x y) (compose x z) := by
 have W2 : ∀ a m n c, wrap64 c = c → (add64 a (add64 m n) = add64 c n ↔ add64 a m = c) := fun a m n c h => add64_shift h
 have W1 : ∀ a n c, wrap64 a = a → wrap64 c = c → (add64 a n = add64 c n ↔ a = c) := fun a n c h k => wrap_inj h k
 have W4 : ∀ n a c, wrap64 a = a → wrap64 c = c → (add64 n a = add64 n c ↔ a = c) := fun n a c h k => add64_left h k
 have W3 : ∀ a m n, add64 (add64 a m) n = add64 a (add64 m n) := add64_assoc
 rcases valid_cases hx with rfl | ⟨c, rfl⟩ | ⟨b, rfl⟩ | ⟨b, c, rfl⟩ | rfl <;> rcases valid_cases hy with rfl | ⟨c', rfl⟩ | ⟨b', rfl⟩ | ⟨b', c', rfl⟩ | rfl <;> rcases valid_cases hz with rfl | ⟨c2, rfl⟩ | ⟨b2, rfl⟩ | ⟨b2, c2, rfl⟩ | rfl <;>
   simp [compose, shifted, meet, add64_def]
 all_goals simp only [fits] at *
 all_goals grind
set_option maxHeartbeats 2000000 in
theorem meet_compose {x y z : X} (hx : rcheck x = 0) (hy : rcheck y = 0) (hz : rcheck z = 0) (fx : fits x) (fy : fits y) : compose (meet x y) z = meet (compose x z) (compose y z) := by
 have W2 : ∀ a m n c, wrap64 c = c → (add64 a (add64 m n) = add64 c n ↔ add64 a m = c) := fun a m n c h => add64_shift h
 have W1 : ∀ a n c, wrap64 a = a → wrap64 c = c → (add64 a n = add64 c n ↔ a = c) := fun a n c h k => wrap_inj h k
 have W3 : ∀ a m n, add64 (add64 a m) n = add64 a (add64 m n) := add64_assoc
 rcases valid_cases hx with rfl | ⟨c, rfl⟩ | ⟨b, rfl⟩ | ⟨b, c, rfl⟩ | rfl <;> rcases valid_cases hy with rfl | ⟨c', rfl⟩ | ⟨b', rfl⟩ | ⟨b', c', rfl⟩ | rfl <;> rcases valid_cases hz with rfl | ⟨c2, rfl⟩ | ⟨b2, rfl⟩ | ⟨b2, c2, rfl⟩ | rfl <;>
   simp [compose, shifted, meet, add64_def]
 all_goals simp only [fits] at *
 all_goals grind
theorem meet_comm {x y : X} (hx : rcheck x = 0) (hy : rcheck y = 0) : meet x y = meet y x := by
 rcases valid_cases hx with rfl | ⟨c, rfl⟩ | ⟨b, rfl⟩ | ⟨b, c, rfl⟩ | rfl <;> rcases valid_cases hy with rfl | ⟨c', rfl⟩ | ⟨b', rfl⟩ | ⟨b', c', rfl⟩ | rfl <;> simp [meet]
 all_goals grind
theorem meet_self (x : X) : meet x x = x := by simp [meet]
theorem meet_top (x : X) : meet x ⟨0, 0, 0⟩ = x := by simp [meet]
theorem steps_meet {x y : X} (hx : rcheck x = 0) (hy : rcheck y = 0) : meet x y = x ∨ steps (meet x y) < steps x := by
 rcases valid_cases hx with rfl | ⟨c, rfl⟩ | ⟨b, rfl⟩ | ⟨b, c, rfl⟩ | rfl <;> rcases valid_cases hy with rfl | ⟨c', rfl⟩ | ⟨b', rfl⟩ | ⟨b', c', rfl⟩ | rfl <;> simp [meet]
 all_goals grind [steps]
theorem steps_nonneg (x : X) : 0 ≤ steps x := by unfold steps; repeat' split
                                                 all_goals omega
set_option maxHeartbeats 1000000 in
theorem apply_meet {x y : X} {v : V} (hx : rcheck x = 0) (hy : rcheck y = 0) (hv : rcheckV v = 0) (fx : fits x) (fy : fits y) : apply (meet x y) v = meetV (apply x v) (apply y v) := by
 have W4 : ∀ n a c, wrap64 a = a → wrap64 c = c → (add64 n a = add64 n c ↔ a = c) := fun n a c h k => add64_left h k
 rcases valid_cases hx with rfl | ⟨c, rfl⟩ | ⟨b, rfl⟩ | ⟨b, c, rfl⟩ | rfl <;> rcases valid_cases hy with rfl | ⟨c', rfl⟩ | ⟨b', rfl⟩ | ⟨b', c', rfl⟩ | rfl <;> rcases validV_cases hv with rfl | ⟨n, rfl⟩ | rfl <;> simp [meet, apply, sum, meetV, add64_def]
 all_goals simp only [fits] at *
 all_goals grind
set_option maxHeartbeats 1000000 in
theorem apply_meetV {x : X} {v w : V} (hx : rcheck x = 0) (hv : rcheckV v = 0) (hw : rcheckV w = 0) (fv : wrap64 v.n = v.n) (fw : wrap64 w.n = w.n) : apply x (meetV v w) = meetV (apply x v) (apply x w) := by
 have W1 : ∀ a n c, wrap64 a = a → wrap64 c = c → (add64 a n = add64 c n ↔ a = c) := fun a n c h k => wrap_inj h k
 rcases valid_cases hx with rfl | ⟨c, rfl⟩ | ⟨b, rfl⟩ | ⟨b, c, rfl⟩ | rfl <;> rcases validV_cases hv with rfl | ⟨n, rfl⟩ | rfl <;> rcases validV_cases hw with rfl | ⟨m, rfl⟩ | rfl <;> simp [apply, sum, meetV, add64_def]
 all_goals grind
theorem check_apply {x : X} {v : V} (hx : rcheck x = 0) (hv : rcheckV v = 0) : rcheckV (apply x v) = 0 := by
 rcases valid_cases hx with rfl | ⟨c, rfl⟩ | ⟨b, rfl⟩ | ⟨b, c, rfl⟩ | rfl <;> rcases validV_cases hv with rfl | ⟨n, rfl⟩ | rfl <;> simp [apply, sum, meetV]
 all_goals (repeat' split) <;> simp [rcheckV]
end Go.Proofs.YtincpmdldpakkaaGreatDoor.Xf
namespace Go.Df
namespace Iv
open Go.RowKit Go.Proofs.YtincpmdldpakkaaGreatDoor
theorem wrap_wrap (a : Int) : wrap64 (wrap64 a) = wrap64 a := by unfold wrap64; omega
theorem wrap_zero : wrap64 0 = 0 := by unfold wrap64; omega
theorem fits_shifted (x : Xf.X) (n : Int) : Xf.fits (Xf.shifted x n) := by
 unfold Xf.shifted Xf.fits
 (repeat' split) <;> simp [wrap_wrap, wrap_zero]
theorem fits_compose {x y : Xf.X} (hy : Xf.fits y) : Xf.fits (Xf.compose x y) := by
 have hs := fits_shifted x y.b
 unfold Xf.compose
 dsimp only
 (repeat' split) <;> first | exact hs | exact hy | exact ⟨wrap_zero, wrap_zero⟩ | exact ⟨hs.1, hy.2⟩
theorem fits_meet {x y : Xf.X} (hx : Xf.fits x) (hy : Xf.fits y) : Xf.fits (Xf.meet x y) := by
 unfold Xf.meet
 (repeat' split) <;> first | exact hx | exact hy | exact ⟨wrap_zero, wrap_zero⟩ | exact ⟨by (first | exact hx.1 | exact hy.1 | exact wrap_zero), by (first | exact hx.2 | exact hy.2 | exact wrap_zero)⟩
theorem fits_apply {x : Xf.X} {v : Xf.V} (hx : Xf.fits x) (hv : wrap64 v.n = v.n) : wrap64 (Xf.apply x v).n = (Xf.apply x v).n := by
 unfold Xf.apply Xf.sum Xf.meetV
 (repeat' split) <;> first | exact hv | exact wrap_zero | exact hx.2 | exact wrap_wrap _ | (simp [wrap_wrap, wrap_zero, hx.2, hv]; done)
theorem fits_meetV {v w : Xf.V} (hv : wrap64 v.n = v.n) (hw : wrap64 w.n = w.n) : wrap64 (Xf.meetV v w).n = (Xf.meetV v w).n := by
 unfold Xf.meetV
 (repeat' split) <;> first | exact hv | exact hw | exact wrap_zero
def D : Type := { x : Xf.X // Xf.rcheck x = 0 ∧ Xf.fits x }
def U : Type := { v : Xf.V // Xf.rcheckV v = 0 ∧ wrap64 v.n = v.n }
instance : DecidableEq D := fun x y => if h : x.1 = y.1 then isTrue (Subtype.ext h) else isFalse (fun e => h (congrArg Subtype.val e))
instance : DecidableEq U := fun x y => if h : x.1 = y.1 then isTrue (Subtype.ext h) else isFalse (fun e => h (congrArg Subtype.val e))
def mkD (x : Xf.X) (h : Xf.rcheck x = 0 ∧ Xf.fits x) : D := ⟨x, h⟩
theorem mkD_val {x : Xf.X} (h : Xf.rcheck x = 0 ∧ Xf.fits x) : (mkD x h).1 = x := rfl
theorem check_const (v : Int) : Xf.rcheck ⟨1, 0, v⟩ = 0 := by unfold Xf.rcheck; simp
def top : D := ⟨⟨0, 0, 0⟩, by decide, wrap_zero, wrap_zero⟩
def shift : D := ⟨⟨2, 0, 0⟩, by decide, wrap_zero, wrap_zero⟩
def bot : D := ⟨⟨4, 0, 0⟩, by decide, wrap_zero, wrap_zero⟩
def meet (x y : D) : D := ⟨Xf.meet x.1 y.1, Xf.check_meet x.2.1 y.2.1, fits_meet x.2.2 y.2.2⟩
def comp (x y : D) : D := ⟨Xf.compose x.1 y.1, Xf.check_compose x.2.1 y.2.1, fits_compose y.2.2⟩
def topV : U := ⟨⟨0, 0⟩, by decide, wrap_zero⟩
def botV : U := ⟨⟨2, 0⟩, by decide, wrap_zero⟩
theorem check_meetV {v w : Xf.V} (hv : Xf.rcheckV v = 0) (hw : Xf.rcheckV w = 0) : Xf.rcheckV (Xf.meetV v w) = 0 := by
 unfold Xf.meetV
 (repeat' split) <;> first | exact hv | exact hw | decide
def meetV (v w : U) : U := ⟨Xf.meetV v.1 w.1, check_meetV v.2.1 w.2.1, fits_meetV v.2.2 w.2.2⟩
def app (x : D) (v : U) : U := ⟨Xf.apply x.1 v.1, Xf.check_apply x.2.1 v.2.1, fits_apply x.2.2 v.2.2⟩
theorem meet_self (x : D) : meet x x = x := Subtype.ext (Xf.meet_self _)
theorem meet_comm (x y : D) : meet x y = meet y x := Subtype.ext (Xf.meet_comm x.2.1 y.2.1)
theorem meet_assoc (x y z : D) : meet (meet x y) z = meet x (meet y z) := Subtype.ext (Xf.meet_assoc x.2.1 y.2.1 z.2.1)
theorem meet_top (x : D) : meet x top = x := Subtype.ext (Xf.meet_top _)
theorem top_meet (x : D) : meet top x = x := by rw [meet_comm, meet_top]
theorem comp_top (x : D) : comp x top = top := Subtype.ext (by show Xf.compose x.1 ⟨0, 0, 0⟩ = ⟨0, 0, 0⟩; unfold Xf.compose; rw [if_pos (Or.inr rfl)])
theorem top_comp (x : D) : comp top x = top := Subtype.ext (by show Xf.compose ⟨0, 0, 0⟩ x.1 = ⟨0, 0, 0⟩; unfold Xf.compose; rw [if_pos (Or.inl rfl)])
theorem comp_assoc (x y z : D) : comp (comp x y) z = comp x (comp y z) := Subtype.ext (Xf.compose_assoc x.2.1 y.2.1 z.2.1 x.2.2 y.2.2)
theorem comp_meet (x y z : D) : comp x (meet y z) = meet (comp x y) (comp x z) := Subtype.ext (Xf.compose_meet x.2.1 y.2.1 z.2.1 y.2.2 z.2.2)
theorem meet_comp (x y z : D) : comp (meet x y) z = meet (comp x z) (comp y z) := Subtype.ext (Xf.meet_compose x.2.1 y.2.1 z.2.1 x.2.2 y.2.2)
theorem app_meet (x y : D) (v : U) : app (meet x y) v = meetV (app x v) (app y v) := Subtype.ext (Xf.apply_meet x.2.1 y.2.1 v.2.1 x.2.2 y.2.2)
theorem app_meetV (x : D) (v w : U) : app x (meetV v w) = meetV (app x v) (app x w) := Subtype.ext (Xf.apply_meetV x.2.1 v.2.1 w.2.1 v.2.2 w.2.2)
theorem app_topV (x : D) : app x topV = topV := Subtype.ext (by show Xf.apply x.1 ⟨0, 0⟩ = ⟨0, 0⟩; unfold Xf.apply; rw [if_pos rfl])
theorem top_app (v : U) : app top v = topV := Subtype.ext (by show Xf.apply ⟨0, 0, 0⟩ v.1 = ⟨0, 0⟩; unfold Xf.apply; split <;> first | rfl | (rw [if_pos rfl]))
theorem meetV_self (v : U) : meetV v v = v := Subtype.ext (by show Xf.meetV v.1 v.1 = v.1; unfold Xf.meetV; rw [if_pos (Or.inl rfl)])
theorem meetV_comm (v w : U) : meetV v w = meetV w v := Subtype.ext (by
 show Xf.meetV v.1 w.1 = Xf.meetV w.1 v.1
 rcases Xf.validV_cases v.2.1 with h | ⟨n, h⟩ | h <;> rcases Xf.validV_cases w.2.1 with k | ⟨m, k⟩ | k <;> rw [h, k] <;> simp [Xf.meetV] <;> grind)
theorem meetV_assoc (u v w : U) : meetV (meetV u v) w = meetV u (meetV v w) := Subtype.ext (by
 show Xf.meetV (Xf.meetV u.1 v.1) w.1 = Xf.meetV u.1 (Xf.meetV v.1 w.1)
 rcases Xf.validV_cases u.2.1 with g | ⟨l, g⟩ | g <;> rcases Xf.validV_cases v.2.1 with h | ⟨n, h⟩ | h <;> rcases Xf.validV_cases w.2.1 with k | ⟨m, k⟩ | k <;> rw [g, h, k] <;> simp [Xf.meetV] <;> grind)
theorem meetV_top (v : U) : meetV v topV = v := Subtype.ext (by show Xf.meetV v.1 ⟨0, 0⟩ = v.1; unfold Xf.meetV; rw [if_pos (Or.inr rfl)])
theorem top_meetV (v : U) : meetV topV v = v := by rw [meetV_comm, meetV_top]
def le (x y : D) : Prop := meet y x = x
def leV (v w : U) : Prop := meetV w v = v
theorem le_refl (x : D) : le x x := meet_self x
theorem le_top (x : D) : le x top := top_meet x
theorem le_trans {x y z : D} (h : le x y) (k : le y z) : le x z := by
 unfold le at *
 rw [← h, ← meet_assoc, k]
theorem le_antisymm {x y : D} (h : le x y) (k : le y x) : x = y := by
 unfold le at *
 rw [← h, meet_comm, k]
theorem meet_le_left (x y : D) : le (meet x y) x := by unfold le; rw [← meet_assoc, meet_self]
theorem meet_le_right (x y : D) : le (meet x y) y := by rw [meet_comm]; exact meet_le_left y x
theorem le_meet {x y z : D} (h : le z x) (k : le z y) : le z (meet x y) := by
 unfold le at *
 rw [meet_assoc, k, h]
theorem meet_eq_iff {x y : D} : meet x y = x ↔ le x y := by unfold le; rw [meet_comm]
theorem comp_mono {x x' y y' : D} (h : le x x') (k : le y y') : le (comp x y) (comp x' y') := by
 refine le_trans (y := comp x' y) ?_ ?_
 · unfold le at *; rw [← meet_comp, h]
 · unfold le at *; rw [← comp_meet, k]
theorem leV_refl (x : U) : leV x x := meetV_self x
theorem leV_top (x : U) : leV x topV := top_meetV x
theorem leV_trans {x y z : U} (h : leV x y) (k : leV y z) : leV x z := by
 unfold leV at *
 rw [← h, ← meetV_assoc, k]
theorem leV_antisymm {x y : U} (h : leV x y) (k : leV y x) : x = y := by
 unfold leV at *
 rw [← h, meetV_comm, k]
theorem meetV_le_left (x y : U) : leV (meetV x y) x := by unfold leV; rw [← meetV_assoc, meetV_self]
theorem meetV_le_right (x y : U) : leV (meetV x y) y := by rw [meetV_comm]; exact meetV_le_left y x
theorem le_meetV {x y z : U} (h : leV z x) (k : leV z y) : leV z (meetV x y) := by
 unfold leV at *
 rw [meetV_assoc, k, h]
theorem app_mono {x x' : D} {v v' : U} (h : le x x') (k : leV v v') : leV (app x v) (app x' v') := by
 refine leV_trans (y := app x' v) ?_ ?_
 · unfold le leV at *; rw [← app_meet, h]
 · unfold leV at *; rw [← app_meetV, k]
def stp (x : D) : Nat := (Xf.steps x.1).toNat
theorem stp_meet (x y : D) (h : meet x y ≠ x) : stp (meet x y) < stp x := by
 have h1 := Xf.steps_nonneg (meet x y).1
 rcases Xf.steps_meet x.2.1 y.2.1 with h2 | h2
 · exact absurd (Subtype.ext h2) h
 · have h3 : Xf.steps (meet x y).1 < Xf.steps x.1 := h2
   unfold stp
   omega
theorem stp_mono {x y : D} (h : le x y) : stp x ≤ stp y := by
 by_cases e : x = y
 · rw [e]; exact Nat.le_refl _
 · have h1 : meet y x ≠ y := by rw [h]; exact e
   have h2 := stp_meet y x h1
   rw [h] at h2
   omega
def stpV (v : U) : Nat := if v.1.k = 0 then 2 else if v.1.k = 1 then 1 else 0
theorem stpV_key : ∀ (x y : Xf.V), (x = ⟨0, 0⟩ ∨ (∃ n, x = ⟨1, n⟩) ∨ x = ⟨2, 0⟩) → (y = ⟨0, 0⟩ ∨ (∃ n, y = ⟨1, n⟩) ∨ y = ⟨2, 0⟩) → Xf.meetV x y ≠ x →
   (if (Xf.meetV x y).k = 0 then 2 else if (Xf.meetV x y).k = 1 then 1 else 0) < (if x.k = 0 then 2 else if x.k = 1 then 1 else 0 : Nat) := by
 rintro x y (rfl | ⟨n, rfl⟩ | rfl) (rfl | ⟨m, rfl⟩ | rfl) h <;> simp [Xf.meetV] at h ⊢
 all_goals first | (rw [if_neg h]; simp; done) | (exfalso; exact h rfl) | skip
theorem stpV_meet (v w : U) (h : meetV v w ≠ v) : stpV (meetV v w) < stpV v :=
 stpV_key v.1 w.1 (Xf.validV_cases v.2.1) (Xf.validV_cases w.2.1) (fun e => h (Subtype.ext e))
theorem kind_top {x : D} : x.1.k = 0 ↔ x = top := by
 constructor
 · intro h
   refine Subtype.ext ?_
   rcases Xf.valid_cases x.2.1 with e | ⟨c, e⟩ | ⟨b, e⟩ | ⟨b, c, e⟩ | e <;> rw [e] at h ⊢ <;> first | rfl | (simp at h)
 · intro h; rw [h]; rfl
end Iv
end Go.Df
namespace Go.Df
open Go.RowKit
namespace If
open Sp
structure Pr where
 i : Int
 o : Int
deriving DecidableEq
structure Sd where
 n : Int
 f : Int
deriving DecidableEq
def gp (l : List Pr) (i : Nat) : Pr := l.getD i ⟨0, 0⟩
def gd (l : List Sd) (i : Nat) : Sd := l.getD i ⟨0, 0⟩
def gf (ls : List (List Pr)) (i : Nat) : List Pr := ls.getD i []
theorem gp_lt {l : List Pr} {i : Nat} (h : i < l.length) : gp l i = l[i] := by simp [gp, h]
theorem gd_lt {l : List Sd} {i : Nat} (h : i < l.length) : gd l i = l[i] := by simp [gd, h]
theorem mem_gp {l : List Pr} {q : Pr} (h : q ∈ l) : ∃ i, i < l.length ∧ gp l i = q := by
 obtain ⟨i, hi, rfl⟩ := List.getElem_of_mem h
 exact ⟨i, hi, gp_lt hi⟩
theorem mem_gd {l : List Sd} {q : Sd} (h : q ∈ l) : ∃ i, i < l.length ∧ gd l i = q := by
 obtain ⟨i, hi, rfl⟩ := List.getElem_of_mem h
 exact ⟨i, hi, gd_lt hi⟩
def lessR (a b : Pr) : Bool := if a.i ≠ b.i then decide (a.i < b.i) else decide (a.o < b.o)
def lessD (a b : Sd) : Bool := if a.n ≠ b.n then decide (a.n < b.n) else decide (a.f < b.f)
theorem ordR_ge (a b : Pr) : decide (0 ≤ orL [cmpI a.i b.i, cmpI a.o b.o]) = !lessR a b := by
 unfold lessR
 rw [or_cmp, or_last]
 split <;> rfl
def prErr (F : Int) (l : List Pr) (j : Nat) : Int :=
 if (gp l j).i < 0 ∨ F ≤ (gp l j).i ∨ (gp l j).o < 0 ∨ F ≤ (gp l j).o then 4 else if 0 < j ∧ lessR (gp l (j - 1)) (gp l j) = false then 13 else 0
def flErr (F : Int) (l : List Pr) : Int :=
 if F < 1 ∨ 1024 < F then 4 else if 8192 < l.length then 3 else if fe (prErr F l) 0 l.length ≠ 0 then fe (prErr F l) 0 l.length else if l.length = 0 ∨ gp l 0 ≠ ⟨0, 0⟩ then 1 else 0
def sdErr (N : Nat) (F : Int) (l : List Sd) (j : Nat) : Int :=
 if (gd l j).n < 0 ∨ (N : Int) ≤ (gd l j).n ∨ (gd l j).f < 1 ∨ F ≤ (gd l j).f then 4 else if 0 < j ∧ lessD (gd l (j - 1)) (gd l j) = false then 13 else 0
structure Pb where
 ns : List Nd
 es : List Ed
 mn : Int
 F : Int
 fl : List (List Pr)
 sd : List Sd
def pbErr (p : Pb) : Int :=
 if superErr p.ns p.es p.mn ≠ 0 then superErr p.ns p.es p.mn else if p.F < 1 ∨ 1024 < p.F then 4 else if p.fl.length ≠ p.es.length then 20
 else if fe (fun i => flErr p.F (gf p.fl i)) 0 p.fl.length ≠ 0 then fe (fun i => flErr p.F (gf p.fl i)) 0 p.fl.length else fe (sdErr p.ns.length p.F p.sd) 0 p.sd.length
theorem pr_in {F : Int} {l : List Pr} {j : Nat} (h : prErr F l j = 0) : 0 ≤ (gp l j).i ∧ (gp l j).i < F ∧ 0 ≤ (gp l j).o ∧ (gp l j).o < F := by
 unfold prErr at h
 split at h
 · cases h
 · omega
structure Ok (p : Pb) : Prop where
 sup : superErr p.ns p.es p.mn = 0
 f1 : 1 ≤ p.F
 f2 : p.F ≤ 1024
 len : p.fl.length = p.es.length
 fl : ∀ k, k < p.fl.length → (gf p.fl k).length ≤ 8192 ∧ (∀ j, j < (gf p.fl k).length → prErr p.F (gf p.fl k) j = 0) ∧ 0 < (gf p.fl k).length ∧ gp (gf p.fl k) 0 = ⟨0, 0⟩
 sd : ∀ j, j < p.sd.length → sdErr p.ns.length p.F p.sd j = 0
theorem Ok.pair {p : Pb} (h : Ok p) {k : Nat} (hk : k < p.fl.length) {q : Pr} (hq : q ∈ gf p.fl k) : 0 ≤ q.i ∧ q.i < p.F ∧ 0 ≤ q.o ∧ q.o < p.F := by
 obtain ⟨j, hj, rfl⟩ := mem_gp hq
 exact pr_in ((h.fl k hk).2.1 j hj)
theorem Ok.seed {p : Pb} (h : Ok p) {s : Sd} (hs : s ∈ p.sd) : 0 ≤ s.n ∧ s.n < p.ns.length ∧ 1 ≤ s.f ∧ s.f < p.F := by
 obtain ⟨j, hj, rfl⟩ := mem_gd hs
 have := h.sd j hj
 unfold sdErr at this
 split at this
 · cases this
 · omega
theorem sup_parts {ns : List Nd} {es : List Ed} {m : Int} (h : superErr ns es m = 0) : ns.length ≤ 8192 ∧ es.length ≤ 32768 ∧ nodesErr ns m = 0 ∧ ∀ k, k < es.length → edgeErr ns es k = 0 := by
 unfold superErr at h
 split at h
 · cases h
 · split at h
   · rename_i h0; exact absurd h h0
   · rename_i h0
     exact ⟨by omega, by omega, Decidable.byContradiction h0, fun k hk => fe_zero _ _ h k (Nat.zero_le _) (by omega)⟩
theorem sup_edge {ns : List Nd} {es : List Ed} {m : Int} (h : superErr ns es m = 0) {k : Nat} (hk : k < es.length) :
   0 ≤ (ge es k).a ∧ (ge es k).a < ns.length ∧ 0 ≤ (ge es k).b ∧ (ge es k).b < ns.length ∧ 1 ≤ (ge es k).k ∧ (ge es k).k ≤ 5 ∧ ((ge es k).k ≠ 1 → (ge es k).k ≠ 5 → 0 ≤ (ge es k).c ∧ (ge es k).c < ns.length) ∧ fitsB ns es (ge es k) = true := by
 have := (sup_parts h).2.2.2 k hk
 unfold edgeErr at this
 split at this
 · cases this
 · split at this
   · cases this
   · split at this
     · cases this
     · split at this
       · cases this
       · split at this
         · cases this
         · rename_i h9
           refine ⟨by omega, by omega, by omega, by omega, by omega, by omega, fun h1 h2 => by omega, by simpa using h9⟩
inductive PE (p : Pb) : Nat → Nat → Nat → Prop
 | main : PE p 0 p.mn.toNat 0
 | seed {s : Sd} : PE p 0 s.n.toNat 0 → s ∈ p.sd → PE p 0 s.n.toNat s.f.toNat
 | flow {a k : Nat} {q : Pr} : k < p.es.length → ((ge p.es k).k = 1 ∨ (ge p.es k).k = 5) → q ∈ gf p.fl k → PE p a (ge p.es k).a.toNat q.i.toNat → PE p a (ge p.es k).b.toNat q.o.toNat
 | call {a k : Nat} {q : Pr} : k < p.es.length → (ge p.es k).k = 2 → q ∈ gf p.fl k → PE p a (ge p.es k).a.toNat q.i.toNat → PE p q.o.toNat (ge p.es k).b.toNat q.o.toNat
 | ret {a c r : Nat} {q s : Pr} : c < p.es.length → (ge p.es c).k = 2 → q ∈ gf p.fl c → r < p.es.length → ((ge p.es r).k = 3 ∨ (ge p.es r).k = 4) → s ∈ gf p.fl r → (ge p.es c).a = (ge p.es r).c →
     (gn p.ns (ge p.es c).b.toNat).f = (gn p.ns (ge p.es r).a.toNat).f → PE p a (ge p.es c).a.toNat q.i.toNat → PE p q.o.toNat (ge p.es r).a.toNat s.i.toNat → PE p a (ge p.es r).b.toNat s.o.toNat
theorem main_in {ns : List Nd} {m : Int} (h : nodesErr ns m = 0) : 0 ≤ m ∧ m < ns.length ∧ (gn ns m.toNat).k = 1 := by
 unfold nodesErr at h
 split at h
 · rename_i h0; exact absurd h h0
 · split at h
   · rename_i h0; exact absurd h h0
   · unfold mainErr at h
     split at h
     · cases h
     · omega
theorem PE.rng {p : Pb} (h : Ok p) {a n d : Nat} (hp : PE p a n d) : n < p.ns.length ∧ (a : Int) < p.F ∧ (d : Int) < p.F := by
 have f1 := h.f1
 have hm := main_in (sup_parts h.sup).2.2.1
 induction hp with
 | main => exact ⟨by omega, by omega, by omega⟩
 | seed _ hs ih => have := h.seed hs; exact ⟨by omega, by omega, by omega⟩
 | flow hk _ hq _ ih => have := h.pair (by rw [h.len]; exact hk) hq; have := sup_edge h.sup hk; exact ⟨by omega, by omega, by omega⟩
 | call hk _ hq _ ih => have := h.pair (by rw [h.len]; exact hk) hq; have := sup_edge h.sup hk; exact ⟨by omega, by omega, by omega⟩
 | ret hc _ _ hr _ hs _ _ _ _ ih1 ih2 => have := h.pair (by rw [h.len]; exact hr) hs; have := sup_edge h.sup hr; exact ⟨by omega, by omega, by omega⟩
end If
end Go.Df
namespace Go.Df
theorem Kept.next {X Y : List Nat} {W w w' : World} (h : Kept X W w) (h' : Kept Y w w') (hx : ∀ y ∈ Y, y ∈ X ∨ W.heap.size ≤ y) : Kept X W w' :=
 ⟨h'.os.trans h.os, h'.tape.trans h.tape, h'.output.trans h.output, Nat.le_trans h.size h'.size, fun k hk hn => (h'.block k (Nat.lt_of_lt_of_le hk h.size) (fun hm => by rcases hx k hm with h1 | h1; exact hn h1; omega)).trans (h.block k hk hn)⟩
def mv (g : Int → Int) (v : Value) : Lit := match v with | .int .i64 a => .int .i64 (g a) | _ => .int .i64 0
theorem mv_put {g g' : Int → Int} {a : Int} (h : ∀ x, x ≠ a → g' x = g x) : ∀ v, v ≠ .int .i64 a → mv g' v = mv g v := by
 intro v hv
 unfold mv
 split
 · rename_i x
   rw [h x (fun hh => hv (by rw [hh]))]
 · rfl
def mbl (g : Int → Int → Bool) : List Value → Lit
 | [.int .i64 a, .int .i64 b] => .bool (g a b)
 | _ => .bool false
def mb (g : Int → Int → Bool) (v : Value) : Lit := match v with | .agg xs => mbl g xs.toList | _ => .bool false
theorem mbl_put {g g' : Int → Int → Bool} {a b : Int} (h : ∀ x y, ¬ (x = a ∧ y = b) → g' x y = g x y) : ∀ l, l ≠ [.int .i64 a, .int .i64 b] → mbl g' l = mbl g l := by
 intro l hl
 unfold mbl
 split
 · rename_i x y
   exact congrArg _ (h x y (fun hh => hl (by rw [hh.1, hh.2])))
 · rfl
theorem mb_put {g g' : Int → Int → Bool} {a b : Int} (h : ∀ x y, ¬ (x = a ∧ y = b) → g' x y = g x y) : ∀ v, v ≠ .agg #[.int .i64 a, .int .i64 b] → mb g' v = mb g v := by
 intro v hv
 unfold mb
 split
 · rename_i xs
   exact mbl_put h _ (fun hh => hv (by rw [show xs = #[.int .i64 a, .int .i64 b] from Array.ext' hh]))
 · rfl
namespace Sp
def cnt (ns : List Nd) : Nat → Int → Int
 | 0, _ => 0
 | j + 1, f => if (gn ns j).f = f ∧ ((gn ns j).k = 1 ∨ (gn ns j).k = 3 ∨ (gn ns j).k = 4) then cnt ns j f + 1 else cnt ns j f
def lst (ns : List Nd) : Nat → Int → Int
 | 0, _ => 0
 | j + 1, f => if (gn ns j).f = f ∧ (gn ns j).k = 1 then (j : Int) else lst ns j f
def ent (es : List Ed) : Nat → Int → Int → Bool
 | 0, _, _ => false
 | j + 1, x, y => if (ge es j).k = 2 ∧ (ge es j).a = x ∧ (ge es j).b = y then true else ent es j x y
theorem cnt_le (ns : List Nd) (f : Int) : ∀ j : Nat, 0 ≤ cnt ns j f ∧ cnt ns j f ≤ j := by
 intro j
 induction j with
 | zero => simp [cnt]
 | succ j ih => unfold cnt; split <;> omega
theorem lst_le (ns : List Nd) (f : Int) : ∀ j : Nat, 0 ≤ lst ns j f ∧ lst ns j f ≤ j := by
 intro j
 induction j with
 | zero => simp [lst]
 | succ j ih => unfold lst; split <;> omega
theorem ent_iff (es : List Ed) (x y : Int) : ∀ n : Nat, ent es n x y = true ↔ ∃ j, j < n ∧ (ge es j).k = 2 ∧ (ge es j).a = x ∧ (ge es j).b = y := by
 intro n
 induction n with
 | zero => simp [ent]
 | succ n ih =>
   unfold ent
   split
   · rename_i h
     simp only [true_iff]
     exact ⟨n, by omega, h⟩
   · rename_i h
     rw [ih]
     constructor
     · rintro ⟨j, hj, h1⟩; exact ⟨j, by omega, h1⟩
     · rintro ⟨j, hj, h1⟩
       rcases Nat.lt_or_ge j n with h2 | h2
       · exact ⟨j, h2, h1⟩
       · obtain rfl : j = n := by omega
         exact absurd h1 h
def ck (ns : List Nd) (k : Int) : Nat → Int → Int
 | 0, _ => 0
 | j + 1, f => if (gn ns j).f = f ∧ (gn ns j).k = k then ck ns k j f + 1 else ck ns k j f
theorem cnt_ck (ns : List Nd) (f : Int) : ∀ j, cnt ns j f = ck ns 1 j f + ck ns 3 j f + ck ns 4 j f := by
 intro j
 induction j with
 | zero => rfl
 | succ j ih =>
   unfold cnt ck
   by_cases hf : (gn ns j).f = f
   · by_cases h1 : (gn ns j).k = 1
     · simp [hf, h1, ih]; omega
     · by_cases h3 : (gn ns j).k = 3
       · simp [hf, h3, ih]; omega
       · by_cases h4 : (gn ns j).k = 4
         · simp [hf, h4, ih]; omega
         · simp [h1, h3, h4, ih]
   · simp [hf, ih]
theorem ck_zero {ns : List Nd} {k f : Int} : ∀ {n : Nat}, (∀ i, i < n → ¬ ((gn ns i).f = f ∧ (gn ns i).k = k)) → ck ns k n f = 0 := by
 intro n
 induction n with
 | zero => intro _; rfl
 | succ n ih => intro h; unfold ck; rw [if_neg (h n (by omega))]; exact ih (fun i hi => h i (by omega))
theorem ck_nn {ns : List Nd} {k f : Int} : ∀ n : Nat, 0 ≤ ck ns k n f := by
 intro n
 induction n with
 | zero => simp [ck]
 | succ n ih => unfold ck; split <;> omega
theorem ck_pos {ns : List Nd} {k f : Int} {i : Nat} : ∀ {n : Nat}, i < n → (gn ns i).f = f → (gn ns i).k = k → 1 ≤ ck ns k n f := by
 intro n
 induction n with
 | zero => intro h; omega
 | succ n ih =>
   intro h h1 h2
   unfold ck
   have := @ck_nn ns k f n
   split
   · omega
   · rename_i h3
     rcases Nat.lt_or_ge i n with h4 | h4
     · exact ih h4 h1 h2
     · obtain rfl : i = n := by omega
       exact absurd ⟨h1, h2⟩ h3
theorem ck_one {ns : List Nd} {k f : Int} : ∀ {n : Nat}, (∀ i j, i < j → j < n → (gn ns i).f = f → (gn ns i).k = k → (gn ns j).f = f → (gn ns j).k = k → False) → ck ns k n f ≤ 1 := by
 intro n
 induction n with
 | zero => intro _; simp [ck]
 | succ n ih =>
   intro h
   unfold ck
   split
   · rename_i h1
     rw [ck_zero (fun i hi hh => h i n hi (by omega) hh.1 hh.2 h1.1 h1.2)]
     omega
   · exact ih (fun i j hi hj => h i j hi (by omega))
theorem lessN_trans {a b c : Nd} (h1 : lessN a b = true) (h2 : lessN b c = true) : lessN a c = true := by
 unfold lessN at *
 grind
theorem node_less {ns : List Nd} {j : Nat} (h : nodeErr ns j = 0) (hj : 0 < j) : lessN (gn ns (j - 1)) (gn ns j) = true := by
 unfold nodeErr at h
 split at h
 · cases h
 · split at h
   · cases h
   · split at h
     · cases h
     · rename_i h3
       simp only [hj, true_and, Bool.not_eq_false] at h3
       exact h3
theorem node_asc {ns : List Nd} {n : Nat} (h : ∀ x, x < n → nodeErr ns x = 0) : ∀ j i, i < j → j < n → lessN (gn ns i) (gn ns j) = true := by
 intro j
 induction j with
 | zero => intro i hi; omega
 | succ j ih =>
   intro i hi hj
   have h1 := node_less (h (j + 1) hj) (by omega)
   rw [Nat.add_sub_cancel] at h1
   rcases Nat.lt_or_ge i j with h2 | h2
   · exact lessN_trans (ih i h2 (by omega)) h1
   · obtain rfl : i = j := by omega
     exact h1
theorem node_i {ns : List Nd} {j : Nat} (h : nodeErr ns j = 0) (hk : (gn ns j).k ≠ 2) : (gn ns j).i = -1 := by
 unfold nodeErr at h
 split at h
 · cases h
 · split at h
   · cases h
   · rename_i h3
     rcases Int.lt_or_le (gn ns j).f 0 with h4 | h4
     · exact absurd (Or.inl h4) h3
     · exact Classical.byContradiction (fun h5 => h3 (Or.inr (Or.inr ⟨hk, h5⟩)))
theorem node_once {ns : List Nd} {n : Nat} (h : ∀ x, x < n → nodeErr ns x = 0) {i j : Nat} (hij : i < j) (hj : j < n) {f k : Int} (hk : k ≠ 2) (h1 : (gn ns i).f = f) (h2 : (gn ns i).k = k) (h3 : (gn ns j).f = f) (h4 : (gn ns j).k = k) : False := by
 have h5 := node_asc h j i hij hj
 have h6 := node_i (h i (by omega)) (by rw [h2]; exact hk)
 have h7 := node_i (h j hj) (by rw [h4]; exact hk)
 unfold lessN at h5
 simp [h1, h2, h3, h4, h6, h7] at h5
theorem kind_neg {ns : List Nd} {f k : Int} : kindAt ns f k < 0 ↔ ∀ j, j < ns.length → ¬ ((gn ns j).f = f ∧ (gn ns j).k = k) := by
 constructor
 · intro h j hj hh
   unfold kindAt at h
   split at h
   · omega
   · rename_i h1
     rw [List.findIdx?_eq_none_iff] at h1
     have := h1 _ (List.getElem_mem hj)
     rw [← gn_lt hj] at this
     simp [hh.1, hh.2] at this
 · intro h
   rw [kind_miss (fun j hj => by have := h j hj; simp only [Bool.and_eq_false_iff, beq_eq_false_iff_ne]; exact Classical.or_iff_not_imp_left.mpr (fun h1 h2 => this ⟨Classical.not_not.mp h1, h2⟩))]
   omega
theorem ck_kind {ns : List Nd} (h : ∀ x, x < ns.length → nodeErr ns x = 0) {f k : Int} (hk : k ≠ 2) : ck ns k ns.length f = if kindAt ns f k < 0 then 0 else 1 := by
 have h1 : ck ns k ns.length f ≤ 1 := ck_one (fun i j hij hj a b c d => node_once h hij hj hk a b c d)
 split
 · rename_i h2
   exact ck_zero (kind_neg.mp h2)
 · rename_i h2
   rw [kind_neg] at h2
   obtain ⟨j, hj⟩ := Classical.not_forall.mp h2
   obtain ⟨hj1, hj2⟩ := Classical.not_imp.mp hj
   have h3 := Classical.not_not.mp hj2
   have := ck_pos hj1 h3.1 h3.2
   omega
theorem cnt_whole {ns : List Nd} (h : ∀ x, x < ns.length → nodeErr ns x = 0) (j : Nat) : wholeErr ns j = if cnt ns ns.length (gn ns j).f = 3 then 0 else 1 := by
 rw [cnt_ck, ck_kind h (by omega), ck_kind h (by omega), ck_kind h (by omega)]
 unfold wholeErr
 by_cases h1 : kindAt ns (gn ns j).f 1 < 0 <;> by_cases h3 : kindAt ns (gn ns j).f 3 < 0 <;> by_cases h4 : kindAt ns (gn ns j).f 4 < 0 <;> simp [h1, h3, h4]
theorem lst_is {ns : List Nd} {f : Int} : ∀ {n : Nat}, n ≤ ns.length → (∃ i, i < n ∧ (gn ns i).f = f ∧ (gn ns i).k = 1) → ∃ s : Nat, lst ns n f = s ∧ s < n ∧ (gn ns s).f = f ∧ (gn ns s).k = 1 := by
 intro n
 induction n with
 | zero => rintro _ ⟨i, hi, -⟩; omega
 | succ n ih =>
   rintro hn ⟨i, hi, h1, h2⟩
   unfold lst
   split
   · rename_i h3
     exact ⟨n, rfl, by omega, h3.1, h3.2⟩
   · rename_i h3
     have : i < n := by
       rcases Nat.lt_or_ge i n with h4 | h4
       · exact h4
       · obtain rfl : i = n := by omega
         exact absurd ⟨h1, h2⟩ h3
     obtain ⟨s, a, b, c⟩ := ih (by omega) ⟨i, this, h1, h2⟩
     exact ⟨s, a, by omega, c⟩
theorem ent_calls {ns : List Nd} {es : List Ed} (h : ∀ x, x < ns.length → nodeErr ns x = 0) {f : Int} (hf : ∃ i, i < ns.length ∧ (gn ns i).f = f ∧ (gn ns i).k = 1) (c : Int) : ent es es.length c (lst ns ns.length f) = callsB ns es c f := by
 obtain ⟨s, hs, hlt, h1, h2⟩ := lst_is (Nat.le_refl _) hf
 rw [hs]
 have key : ∀ j, callB ns c f (ge es j) = true ↔ ((ge es j).k = 2 ∧ (ge es j).a = c ∧ (ge es j).b = (s : Int)) := by
   intro j
   unfold callB
   simp only [Bool.and_eq_true, decide_eq_true_eq]
   constructor
   · rintro ⟨⟨⟨⟨⟨a1, a2⟩, a3⟩, a4⟩, a5⟩, a6⟩
     refine ⟨a1, a2, ?_⟩
     have h7 : (ge es j).b.toNat < ns.length := by omega
     rcases Nat.lt_trichotomy (ge es j).b.toNat s with h8 | h8 | h8
     · exact absurd (node_once h h8 hlt (k := 1) (by omega) a5 a6 h1 h2) id
     · omega
     · exact absurd (node_once h h8 h7 (k := 1) (by omega) h1 h2 a5 a6) id
   · rintro ⟨a1, a2, a3⟩
     have : (ge es j).b.toNat = s := by omega
     rw [this]
     exact ⟨⟨⟨⟨⟨a1, a2⟩, by omega⟩, by omega⟩, h1⟩, h2⟩
 cases hb : callsB ns es c f with
 | false =>
   cases he : ent es es.length c s with
   | false => rfl
   | true =>
     obtain ⟨j, hj, hh⟩ := (ent_iff es c s es.length).mp he
     rw [calls_hit hj ((key j).mpr hh)] at hb
     cases hb
 | true =>
   unfold callsB at hb
   rw [List.any_eq_true] at hb
   obtain ⟨x, hx, hb⟩ := hb
   obtain ⟨j, hj, rfl⟩ := List.getElem_of_mem hx
   rw [← ge_lt hj] at hb
   exact (ent_iff es c s es.length).mpr ⟨j, hj, (key j).mp hb⟩
end Sp
end Go.Df
