/- Texts: Ba Be Bf. -/
import Derived.IntWalk
import Derived.Test.YtincpmdldpakkaaGreatDoorRc07
import Derived.Test.YtincpmdldpakkaaGreatDoorRc06
namespace Go.Proofs.YtincpmdldpakkaaGreatDoor.Xf
open Go.RowKit
structure X where
 k : Int
 b : Int
 c : Int
structure V where
 k : Int
 n : Int
instance : DecidableEq X := fun x y =>
 if h : x.k = y.k ∧ x.b = y.b ∧ x.c = y.c then isTrue (by cases x; cases y; simp_all) else isFalse (by rintro rfl; exact h ⟨rfl, rfl, rfl⟩)
instance : DecidableEq V := fun v w =>
 if h : v.k = w.k ∧ v.n = w.n then isTrue (by cases v; cases w; simp_all) else isFalse (by rintro rfl; exact h ⟨rfl, rfl⟩)
def check (x : X) : Int :=
 if x.k = 3 then 0 else if x.k = 0 ∨ x.k = 4 then (if x.c ≠ 0 then 1 else if x.b ≠ 0 then 1 else 0)
 else if x.k = 1 then (if x.b ≠ 0 then 1 else 0) else if x.k = 2 then (if x.c ≠ 0 then 1 else 0) else 12
def rcheck (x : X) : Int :=
 if x.k < 0 ∨ x.k > 4 then 12 else
 if (x.b ≠ 0 ∧ x.k ≠ 2 ∧ x.k ≠ 3) ∨ (x.c ≠ 0 ∧ x.k ≠ 1 ∧ x.k ≠ 3) then 1 else 0
def checkV (v : V) : Int := if v.k = 0 ∨ v.k = 2 then (if v.n ≠ 0 then 1 else 0) else if v.k = 1 then 0 else 12
def rcheckV (v : V) : Int := if v.k < 0 ∨ v.k > 2 then 12 else if v.n ≠ 0 ∧ v.k ≠ 1 then 1 else 0
def sum (v : V) (b : Int) : V := if v.k = 1 then ⟨1, wrap64 (v.n + b)⟩ else v
def meetV (v w : V) : V := if v = w ∨ w.k = 0 then v else if v.k = 0 then w else ⟨2, 0⟩
def rmeetV (v w : V) : V := if v.k = 0 then w else if w.k = 0 ∨ v = w then v else ⟨2, 0⟩
def apply (x : X) (v : V) : V :=
 if v.k = 0 then ⟨0, 0⟩ else if x.k = 0 then ⟨0, 0⟩ else if x.k = 1 then ⟨1, x.c⟩ else if x.k = 2 then sum v x.b
 else if x.k = 3 then meetV (sum v x.b) ⟨1, x.c⟩ else ⟨2, 0⟩
def rapply (x : X) (v : V) : V :=
 if v.k = 0 then v else if x.k = 0 then ⟨0, 0⟩ else if x.k = 1 then ⟨1, x.c⟩ else if x.k = 2 then sum v x.b
 else if x.k = 3 then rmeetV (sum v x.b) ⟨1, x.c⟩ else ⟨2, 0⟩
def shifted (x : X) (n : Int) : X :=
 if x.k = 1 then ⟨1, 0, wrap64 (x.c + n)⟩ else if x.k = 2 then ⟨2, wrap64 (x.b + n), 0⟩
 else if x.k = 3 then ⟨3, wrap64 (x.b + n), wrap64 (x.c + n)⟩ else ⟨4, 0, 0⟩
def compose (x y : X) : X :=
 if x.k = 0 ∨ y.k = 0 then ⟨0, 0, 0⟩ else if y.k = 1 then y else if y.k = 2 then shifted x y.b
 else if y.k = 3 then
   (let f := shifted x y.b
    if f.k = 2 then ⟨3, f.b, y.c⟩ else if f.k = 1 ∨ f.k = 3 then (if f.c = y.c then f else ⟨4, 0, 0⟩) else ⟨4, 0, 0⟩)
 else ⟨4, 0, 0⟩
def rcompose (x y : X) : X :=
 if x.k = 0 ∨ y.k = 0 then ⟨0, 0, 0⟩ else if y.k = 1 ∨ y.k = 4 then y else if x.k = 4 then x
 else if x.k = 1 then (let v := rapply y ⟨1, x.c⟩; if v.k = 1 then ⟨1, 0, v.n⟩ else ⟨4, 0, 0⟩)
 else if x.k = 2 then ⟨y.k, wrap64 (x.b + y.b), y.c⟩
 else (let v := rapply y ⟨1, x.c⟩; if v.k = 1 then ⟨3, wrap64 (x.b + y.b), v.n⟩ else ⟨4, 0, 0⟩)
def meet (x y : X) : X :=
 if x = y ∨ y.k = 0 then x else if x.k = 0 then y else if x.k = 4 ∨ y.k = 4 then ⟨4, 0, 0⟩
 else if x.k ≠ 1 ∧ y.k ≠ 1 ∧ y.b ≠ x.b then ⟨4, 0, 0⟩
 else if x.k ≠ 2 ∧ y.k ≠ 2 ∧ y.c ≠ x.c then ⟨4, 0, 0⟩
 else ⟨3, if y.k ≠ 1 then y.b else if x.k ≠ 1 then x.b else 0, if y.k ≠ 2 then y.c else if x.k ≠ 2 then x.c else 0⟩
def rmeet1 (x y : X) : X :=
 if x.k = 1 ∧ y.k = 2 then ⟨3, y.b, x.c⟩ else if x.k = 1 ∧ y.k = 3 ∧ x.c = y.c then y
 else if x.k = 2 ∧ y.k = 3 ∧ x.b = y.b then y else ⟨4, 0, 0⟩
def rmeet (x y : X) : X :=
 if x.k = 0 then y else if y.k = 0 ∨ x = y then x else if x.k > y.k then rmeet1 y x else rmeet1 x y
def below (v w : V) : Bool := w.k = 0 ∨ v.k = 2 ∨ v = w
def rbelow (v w : V) : Bool := v = w ∨ v.k = 2 ∨ w.k = 0
def steps (x : X) : Int := if x.k = 0 then 3 else if x.k = 1 ∨ x.k = 2 then 2 else if x.k = 3 then 1 else 0
theorem valid_cases {x : X} (h : rcheck x = 0) : x = ⟨0, 0, 0⟩ ∨ (∃ c, x = ⟨1, 0, c⟩) ∨ (∃ b, x = ⟨2, b, 0⟩) ∨ (∃ b c, x = ⟨3, b, c⟩) ∨ x = ⟨4, 0, 0⟩ := by
 obtain ⟨k, b, c⟩ := x
 simp only [rcheck] at h
 split at h
 ·omega
 ·split at h
  ·omega
  ·rename_i h1 h2
   simp only [not_or, not_and, Int.not_lt] at h1 h2
   obtain ⟨h1a, h1b⟩ := h1
   have hk : k = 0 ∨ k = 1 ∨ k = 2 ∨ k = 3 ∨ k = 4 := by omega
   rcases hk with rfl | rfl | rfl | rfl | rfl <;> simp_all
theorem validV_cases {v : V} (h : rcheckV v = 0) : v = ⟨0, 0⟩ ∨ (∃ n, v = ⟨1, n⟩) ∨ v = ⟨2, 0⟩ := by
 obtain ⟨k, n⟩ := v
 simp only [rcheckV] at h
 split at h
 ·omega
 ·split at h
  ·omega
  ·rename_i h1 h2
   simp only [not_or, not_and, Int.not_lt] at h1 h2
   obtain ⟨h1a, h1b⟩ := h1
   have hk : k = 0 ∨ k = 1 ∨ k = 2 := by omega
   rcases hk with rfl | rfl | rfl <;> simp_all
theorem wrap_add (a b : Int) : wrap64 (wrap64 a + b) = wrap64 (a + b) := by unfold wrap64; omega
theorem wrap_add' (a b : Int) : wrap64 (a + wrap64 b) = wrap64 (a + b) := by unfold wrap64; omega
theorem wrap_inj {a b n : Int} (ha : wrap64 a = a) (hb : wrap64 b = b) : wrap64 (a + n) = wrap64 (b + n) ↔ a = b := by
 unfold wrap64 at *
 constructor <;> intro h <;> omega
/- The lattice laws, on valid transformers whose numbers fit. -/
def fits (x : X) : Prop := wrap64 x.b = x.b ∧ wrap64 x.c = x.c
theorem check_compose {x y : X} (hx : rcheck x = 0) (hy : rcheck y = 0) : rcheck (compose x y) = 0 := by
 rcases valid_cases hx with rfl | ⟨c, rfl⟩ | ⟨b, rfl⟩ | ⟨b, c, rfl⟩ | rfl <;> rcases valid_cases hy with rfl | ⟨c', rfl⟩ | ⟨b', rfl⟩ | ⟨b', c', rfl⟩ | rfl <;>
  simp [compose, shifted]
 all_goals (repeat' split) <;> simp [rcheck]
theorem check_meet {x y : X} (hx : rcheck x = 0) (hy : rcheck y = 0) : rcheck (meet x y) = 0 := by
 rcases valid_cases hx with rfl | ⟨c, rfl⟩ | ⟨b, rfl⟩ | ⟨b, c, rfl⟩ | rfl <;> rcases valid_cases hy with rfl | ⟨c', rfl⟩ | ⟨b', rfl⟩ | ⟨b', c', rfl⟩ | rfl <;>
  simp [meet]
 all_goals (repeat' split) <;> simp [rcheck]
def add64 (a b : Int) : Int := wrap64 (a + b)
theorem add64_def (a b : Int) : wrap64 (a + b) = add64 a b := rfl
theorem add64_assoc (a b c : Int) : add64 (add64 a b) c = add64 a (add64 b c) := by unfold add64; rw [wrap_add, wrap_add', Int.add_assoc]
theorem add64_shift {a m n c : Int} (h : wrap64 c = c) : add64 a (add64 m n) = add64 c n ↔ add64 a m = c := by
 unfold add64
 rw [wrap_add']
 unfold wrap64 at *
 constructor <;> intro h' <;> omega
theorem add64_left {n a c : Int} (h : wrap64 a = a) (k : wrap64 c = c) : add64 n a = add64 n c ↔ a = c := by
 unfold add64 wrap64 at *
 constructor <;> intro h' <;> omega
set_option maxHeartbeats 2000000 in
theorem meet_assoc {x y z : X} (hx : rcheck x = 0) (hy : rcheck y = 0) (hz : rcheck z = 0) : meet (meet x y) z = meet x (meet y z) := by
 have W2 : ∀ a m n c, wrap64 c = c → (add64 a (add64 m n) = add64 c n ↔ add64 a m = c) := fun a m n c h => add64_shift h
 have W1 : ∀ a n c, wrap64 a = a → wrap64 c = c → (add64 a n = add64 c n ↔ a = c) := fun a n c h k => wrap_inj h k
 have W3 : ∀ a m n, add64 (add64 a m) n = add64 a (add64 m n) := add64_assoc
 rcases valid_cases hx with rfl | ⟨c, rfl⟩ | ⟨b, rfl⟩ | ⟨b, c, rfl⟩ | rfl <;> rcases valid_cases hy with rfl | ⟨c', rfl⟩ | ⟨b', rfl⟩ | ⟨b', c', rfl⟩ | rfl <;> rcases valid_cases hz with rfl | ⟨c2, rfl⟩ | ⟨b2, rfl⟩ | ⟨b2, c2, rfl⟩ | rfl <;>
   simp [meet]
 all_goals grind
set_option maxHeartbeats 2000000 in
theorem compose_meet {x y z : X} (hx : rcheck x = 0) (hy : rcheck y = 0) (hz : rcheck z = 0) (fy : fits y) (fz : fits z) : compose x (meet y z) = meet (compose x y) (compose x z) := by
 have W2 : ∀ a m n c, wrap64 c = c → (add64 a (add64 m n) = add64 c n ↔ add64 a m = c) := fun a m n c h => add64_shift h
 have W1 : ∀ a n c, wrap64 a = a → wrap64 c = c → (add64 a n = add64 c n ↔ a = c) := fun a n c h k => wrap_inj h k
 have W4 : ∀ n a c, wrap64 a = a → wrap64 c = c → (add64 n a = add64 n c ↔ a = c) := fun n a c h k => add64_left h k
 have W3 : ∀ a m n, add64 (add64 a m) n = add64 a (add64 m n) := add64_assoc
 rcases valid_cases hx with rfl | ⟨c, rfl⟩ | ⟨b, rfl⟩ | ⟨b, c, rfl⟩ | rfl <;> rcases valid_cases hy with rfl | ⟨c', rfl⟩ | ⟨b', rfl⟩ | ⟨b', c', rfl⟩ | rfl <;> rcases valid_cases hz with rfl | ⟨c2, rfl⟩ | ⟨b2, rfl⟩ | ⟨b2, c2, rfl⟩ | rfl <;>
   simp [compose, shifted, meet, add64_def]
 all_goals simp only [fits] at *
 all_goals grind
set_option maxHeartbeats 2000000 in
theorem meet_compose {x y z : X} (hx : rcheck x = 0) (hy : rcheck y = 0) (hz : rcheck z = 0) (fx : fits x) (fy : fits y) : compose (meet x y) z = meet (compose x z) (compose y z) := by
 have W2 : ∀ a m n c, wrap64 c = c → (add64 a (add64 m n) = add64 c n ↔ add64 a m = c) := fun a m n c h => add64_shift h
 have W1 : ∀ a n c, wrap64 a = a → wrap64 c = c → (add64 a n = add64 c n ↔ a = c) := fun a n c h k => wrap_inj h k
 have W3 : ∀ a m n, add64 (add64 a m) n = add64 a (add64 m n) := add64_assoc
 rcases valid_cases hx with rfl | ⟨c, rfl⟩ | ⟨b, rfl⟩ | ⟨b, c, rfl⟩ | rfl <;> rcases valid_cases hy with rfl | ⟨c', rfl⟩ | ⟨b', rfl⟩ | ⟨b', c', rfl⟩ | rfl <;> rcases valid_cases hz with rfl | ⟨c2, rfl⟩ | ⟨b2, rfl⟩ | ⟨b2, c2, rfl⟩ | rfl <;>
   simp [compose, shifted, meet, add64_def]
 all_goals simp only [fits] at *
 all_goals grind
theorem meet_comm {x y : X} (hx : rcheck x = 0) (hy : rcheck y = 0) : meet x y = meet y x := by
 rcases valid_cases hx with rfl | ⟨c, rfl⟩ | ⟨b, rfl⟩ | ⟨b, c, rfl⟩ | rfl <;> rcases valid_cases hy with rfl | ⟨c', rfl⟩ | ⟨b', rfl⟩ | ⟨b', c', rfl⟩ | rfl <;> simp [meet]
 all_goals grind
theorem meet_self (x : X) : meet x x = x := by simp [meet]
theorem meet_top (x : X) : meet x ⟨0, 0, 0⟩ = x := by simp [meet]
theorem steps_meet {x y : X} (hx : rcheck x = 0) (hy : rcheck y = 0) : meet x y = x ∨ steps (meet x y) < steps x := by
 rcases valid_cases hx with rfl | ⟨c, rfl⟩ | ⟨b, rfl⟩ | ⟨b, c, rfl⟩ | rfl <;> rcases valid_cases hy with rfl | ⟨c', rfl⟩ | ⟨b', rfl⟩ | ⟨b', c', rfl⟩ | rfl <;> simp [meet]
 all_goals grind [steps]
theorem steps_nonneg (x : X) : 0 ≤ steps x := by unfold steps; repeat' split
                                                 all_goals omega
set_option maxHeartbeats 1000000 in
theorem apply_meet {x y : X} {v : V} (hx : rcheck x = 0) (hy : rcheck y = 0) (hv : rcheckV v = 0) (fx : fits x) (fy : fits y) : apply (meet x y) v = meetV (apply x v) (apply y v) := by
 have W4 : ∀ n a c, wrap64 a = a → wrap64 c = c → (add64 n a = add64 n c ↔ a = c) := fun n a c h k => add64_left h k
 rcases valid_cases hx with rfl | ⟨c, rfl⟩ | ⟨b, rfl⟩ | ⟨b, c, rfl⟩ | rfl <;> rcases valid_cases hy with rfl | ⟨c', rfl⟩ | ⟨b', rfl⟩ | ⟨b', c', rfl⟩ | rfl <;> rcases validV_cases hv with rfl | ⟨n, rfl⟩ | rfl <;> simp [meet, apply, sum, meetV, add64_def]
 all_goals simp only [fits] at *
 all_goals grind
set_option maxHeartbeats 1000000 in
theorem apply_meetV {x : X} {v w : V} (hx : rcheck x = 0) (hv : rcheckV v = 0) (hw : rcheckV w = 0) (fv : wrap64 v.n = v.n) (fw : wrap64 w.n = w.n) : apply x (meetV v w) = meetV (apply x v) (apply x w) := by
 have W1 : ∀ a n c, wrap64 a = a → wrap64 c = c → (add64 a n = add64 c n ↔ a = c) := fun a n c h k => wrap_inj h k
 rcases valid_cases hx with rfl | ⟨c, rfl⟩ | ⟨b, rfl⟩ | ⟨b, c, rfl⟩ | rfl <;> rcases validV_cases hv with rfl | ⟨n, rfl⟩ | rfl <;> rcases validV_cases hw with rfl | ⟨m, rfl⟩ | rfl <;> simp [apply, sum, meetV, add64_def]
 all_goals grind
theorem check_apply {x : X} {v : V} (hx : rcheck x = 0) (hv : rcheckV v = 0) : rcheckV (apply x v) = 0 := by
 rcases valid_cases hx with rfl | ⟨c, rfl⟩ | ⟨b, rfl⟩ | ⟨b, c, rfl⟩ | rfl <;> rcases validV_cases hv with rfl | ⟨n, rfl⟩ | rfl <;> simp [apply, sum, meetV]
 all_goals (repeat' split) <;> simp [rcheckV]
end Go.Proofs.YtincpmdldpakkaaGreatDoor.Xf
namespace Go.Df
namespace Iv
open Go.RowKit Go.Proofs.YtincpmdldpakkaaGreatDoor
theorem wrap_wrap (a : Int) : wrap64 (wrap64 a) = wrap64 a := by unfold wrap64; omega
theorem wrap_zero : wrap64 0 = 0 := by unfold wrap64; omega
theorem fits_shifted (x : Xf.X) (n : Int) : Xf.fits (Xf.shifted x n) := by
 unfold Xf.shifted Xf.fits
 (repeat' split) <;> simp [wrap_wrap, wrap_zero]
theorem fits_compose {x y : Xf.X} (hy : Xf.fits y) : Xf.fits (Xf.compose x y) := by
 have hs := fits_shifted x y.b
 unfold Xf.compose
 dsimp only
 (repeat' split) <;> first | exact hs | exact hy | exact ⟨wrap_zero, wrap_zero⟩ | exact ⟨hs.1, hy.2⟩
theorem fits_meet {x y : Xf.X} (hx : Xf.fits x) (hy : Xf.fits y) : Xf.fits (Xf.meet x y) := by
 unfold Xf.meet
 (repeat' split) <;> first | exact hx | exact hy | exact ⟨wrap_zero, wrap_zero⟩ | exact ⟨by (first | exact hx.1 | exact hy.1 | exact wrap_zero), by (first | exact hx.2 | exact hy.2 | exact wrap_zero)⟩
theorem fits_apply {x : Xf.X} {v : Xf.V} (hx : Xf.fits x) (hv : wrap64 v.n = v.n) : wrap64 (Xf.apply x v).n = (Xf.apply x v).n := by
 unfold Xf.apply Xf.sum Xf.meetV
 (repeat' split) <;> first | exact hv | exact wrap_zero | exact hx.2 | exact wrap_wrap _ | (simp [wrap_wrap, wrap_zero, hx.2, hv]; done)
theorem fits_meetV {v w : Xf.V} (hv : wrap64 v.n = v.n) (hw : wrap64 w.n = w.n) : wrap64 (Xf.meetV v w).n = (Xf.meetV v w).n := by
 unfold Xf.meetV
 (repeat' split) <;> first | exact hv | exact hw | exact wrap_zero
def D : Type := { x : Xf.X // Xf.rcheck x = 0 ∧ Xf.fits x }
def U : Type := { v : Xf.V // Xf.rcheckV v = 0 ∧ wrap64 v.n = v.n }
instance : DecidableEq D := fun x y => if h : x.1 = y.1 then isTrue (Subtype.ext h) else isFalse (fun e => h (congrArg Subtype.val e))
instance : DecidableEq U := fun x y => if h : x.1 = y.1 then isTrue (Subtype.ext h) else isFalse (fun e => h (congrArg Subtype.val e))
def mkD (x : Xf.X) (h : Xf.rcheck x = 0 ∧ Xf.fits x) : D := ⟨x, h⟩
theorem mkD_val {x : Xf.X} (h : Xf.rcheck x = 0 ∧ Xf.fits x) : (mkD x h).1 = x := rfl
theorem check_const (v : Int) : Xf.rcheck ⟨1, 0, v⟩ = 0 := by unfold Xf.rcheck; simp
def top : D := ⟨⟨0, 0, 0⟩, by decide, wrap_zero, wrap_zero⟩
def shift : D := ⟨⟨2, 0, 0⟩, by decide, wrap_zero, wrap_zero⟩
def bot : D := ⟨⟨4, 0, 0⟩, by decide, wrap_zero, wrap_zero⟩
def meet (x y : D) : D := ⟨Xf.meet x.1 y.1, Xf.check_meet x.2.1 y.2.1, fits_meet x.2.2 y.2.2⟩
def comp (x y : D) : D := ⟨Xf.compose x.1 y.1, Xf.check_compose x.2.1 y.2.1, fits_compose y.2.2⟩
def topV : U := ⟨⟨0, 0⟩, by decide, wrap_zero⟩
def botV : U := ⟨⟨2, 0⟩, by decide, wrap_zero⟩
theorem check_meetV {v w : Xf.V} (hv : Xf.rcheckV v = 0) (hw : Xf.rcheckV w = 0) : Xf.rcheckV (Xf.meetV v w) = 0 := by
 unfold Xf.meetV
 (repeat' split) <;> first | exact hv | exact hw | decide
def meetV (v w : U) : U := ⟨Xf.meetV v.1 w.1, check_meetV v.2.1 w.2.1, fits_meetV v.2.2 w.2.2⟩
def app (x : D) (v : U) : U := ⟨Xf.apply x.1 v.1, Xf.check_apply x.2.1 v.2.1, fits_apply x.2.2 v.2.2⟩
theorem meet_self (x : D) : meet x x = x := Subtype.ext (Xf.meet_self _)
theorem meet_comm (x y : D) : meet x y = meet y x := Subtype.ext (Xf.meet_comm x.2.1 y.2.1)
theorem meet_assoc (x y z : D) : meet (meet x y) z = meet x (meet y z) := Subtype.ext (Xf.meet_assoc x.2.1 y.2.1 z.2.1)
theorem meet_top (x : D) : meet x top = x := Subtype.ext (Xf.meet_top _)
theorem top_meet (x : D) : meet top x = x := by rw [meet_comm, meet_top]
theorem comp_top (x : D) : comp x top = top := Subtype.ext (by show Xf.compose x.1 ⟨0, 0, 0⟩ = ⟨0, 0, 0⟩; unfold Xf.compose; rw [if_pos (Or.inr rfl)])
theorem top_comp (x : D) : comp top x = top := Subtype.ext (by show Xf.compose ⟨0, 0, 0⟩ x.1 = ⟨0, 0, 0⟩; unfold Xf.compose; rw [if_pos (Or.inl rfl)])
theorem comp_meet (x y z : D) : comp x (meet y z) = meet (comp x y) (comp x z) := Subtype.ext (Xf.compose_meet x.2.1 y.2.1 z.2.1 y.2.2 z.2.2)
theorem meet_comp (x y z : D) : comp (meet x y) z = meet (comp x z) (comp y z) := Subtype.ext (Xf.meet_compose x.2.1 y.2.1 z.2.1 x.2.2 y.2.2)
theorem app_meet (x y : D) (v : U) : app (meet x y) v = meetV (app x v) (app y v) := Subtype.ext (Xf.apply_meet x.2.1 y.2.1 v.2.1 x.2.2 y.2.2)
theorem app_meetV (x : D) (v w : U) : app x (meetV v w) = meetV (app x v) (app x w) := Subtype.ext (Xf.apply_meetV x.2.1 v.2.1 w.2.1 v.2.2 w.2.2)
theorem app_topV (x : D) : app x topV = topV := Subtype.ext (by show Xf.apply x.1 ⟨0, 0⟩ = ⟨0, 0⟩; unfold Xf.apply; rw [if_pos rfl])
theorem top_app (v : U) : app top v = topV := Subtype.ext (by show Xf.apply ⟨0, 0, 0⟩ v.1 = ⟨0, 0⟩; unfold Xf.apply; split <;> first | rfl | (rw [if_pos rfl]))
theorem shift_app (v : U) : app shift v = v := Subtype.ext (by
 show Xf.apply ⟨2, 0, 0⟩ v.1 = v.1
 have hf := v.2.2
 rcases Xf.validV_cases v.2.1 with h | ⟨n, h⟩ | h <;> rw [h] at hf ⊢ <;> simp [Xf.apply, Xf.sum] <;> exact hf)
theorem meetV_self (v : U) : meetV v v = v := Subtype.ext (by show Xf.meetV v.1 v.1 = v.1; unfold Xf.meetV; rw [if_pos (Or.inl rfl)])
theorem meetV_comm (v w : U) : meetV v w = meetV w v := Subtype.ext (by
 show Xf.meetV v.1 w.1 = Xf.meetV w.1 v.1
 rcases Xf.validV_cases v.2.1 with h | ⟨n, h⟩ | h <;> rcases Xf.validV_cases w.2.1 with k | ⟨m, k⟩ | k <;> rw [h, k] <;> simp [Xf.meetV] <;> grind)
theorem meetV_assoc (u v w : U) : meetV (meetV u v) w = meetV u (meetV v w) := Subtype.ext (by
 show Xf.meetV (Xf.meetV u.1 v.1) w.1 = Xf.meetV u.1 (Xf.meetV v.1 w.1)
 rcases Xf.validV_cases u.2.1 with g | ⟨l, g⟩ | g <;> rcases Xf.validV_cases v.2.1 with h | ⟨n, h⟩ | h <;> rcases Xf.validV_cases w.2.1 with k | ⟨m, k⟩ | k <;> rw [g, h, k] <;> simp [Xf.meetV] <;> grind)
theorem meetV_top (v : U) : meetV v topV = v := Subtype.ext (by show Xf.meetV v.1 ⟨0, 0⟩ = v.1; unfold Xf.meetV; rw [if_pos (Or.inr rfl)])
theorem top_meetV (v : U) : meetV topV v = v := by rw [meetV_comm, meetV_top]
def le (x y : D) : Prop := meet y x = x
def leV (v w : U) : Prop := meetV w v = v
theorem le_refl (x : D) : le x x := meet_self x
theorem le_top (x : D) : le x top := top_meet x
theorem le_trans {x y z : D} (h : le x y) (k : le y z) : le x z := by
 unfold le at *
 rw [← h, ← meet_assoc, k]
theorem le_antisymm {x y : D} (h : le x y) (k : le y x) : x = y := by
 unfold le at *
 rw [← h, meet_comm, k]
theorem meet_le_left (x y : D) : le (meet x y) x := by unfold le; rw [← meet_assoc, meet_self]
theorem meet_le_right (x y : D) : le (meet x y) y := by rw [meet_comm]; exact meet_le_left y x
theorem le_meet {x y z : D} (h : le z x) (k : le z y) : le z (meet x y) := by
 unfold le at *
 rw [meet_assoc, k, h]
theorem meet_eq_iff {x y : D} : meet x y = x ↔ le x y := by unfold le; rw [meet_comm]
theorem comp_mono {x x' y y' : D} (h : le x x') (k : le y y') : le (comp x y) (comp x' y') := by
 refine le_trans (y := comp x' y) ?_ ?_
 ·unfold le at *; rw [← meet_comp, h]
 ·unfold le at *; rw [← comp_meet, k]
theorem leV_refl (x : U) : leV x x := meetV_self x
theorem leV_top (x : U) : leV x topV := top_meetV x
theorem leV_trans {x y z : U} (h : leV x y) (k : leV y z) : leV x z := by
 unfold leV at *
 rw [← h, ← meetV_assoc, k]
theorem leV_antisymm {x y : U} (h : leV x y) (k : leV y x) : x = y := by
 unfold leV at *
 rw [← h, meetV_comm, k]
theorem meetV_le_left (x y : U) : leV (meetV x y) x := by unfold leV; rw [← meetV_assoc, meetV_self]
theorem meetV_le_right (x y : U) : leV (meetV x y) y := by rw [meetV_comm]; exact meetV_le_left y x
theorem le_meetV {x y z : U} (h : leV z x) (k : leV z y) : leV z (meetV x y) := by
 unfold leV at *
 rw [meetV_assoc, k, h]
theorem app_mono {x x' : D} {v v' : U} (h : le x x') (k : leV v v') : leV (app x v) (app x' v') := by
 refine leV_trans (y := app x' v) ?_ ?_
 ·unfold le leV at *; rw [← app_meet, h]
 ·unfold leV at *; rw [← app_meetV, k]
def stp (x : D) : Nat := (Xf.steps x.1).toNat
theorem stp_meet (x y : D) (h : meet x y ≠ x) : stp (meet x y) < stp x := by
 have h1 := Xf.steps_nonneg (meet x y).1
 rcases Xf.steps_meet x.2.1 y.2.1 with h2 | h2
 ·exact absurd (Subtype.ext h2) h
 ·have h3 : Xf.steps (meet x y).1 < Xf.steps x.1 := h2
  unfold stp
  omega
theorem stp_mono {x y : D} (h : le x y) : stp x ≤ stp y := by
 by_cases e : x = y
 ·rw [e]; exact Nat.le_refl _
 ·have h1 : meet y x ≠ y := by rw [h]; exact e
  have h2 := stp_meet y x h1
  rw [h] at h2
  omega
def stpV (v : U) : Nat := if v.1.k = 0 then 2 else if v.1.k = 1 then 1 else 0
theorem stpV_key : ∀ (x y : Xf.V), (x = ⟨0, 0⟩ ∨ (∃ n, x = ⟨1, n⟩) ∨ x = ⟨2, 0⟩) → (y = ⟨0, 0⟩ ∨ (∃ n, y = ⟨1, n⟩) ∨ y = ⟨2, 0⟩) → Xf.meetV x y ≠ x →
  (if (Xf.meetV x y).k = 0 then 2 else if (Xf.meetV x y).k = 1 then 1 else 0) < (if x.k = 0 then 2 else if x.k = 1 then 1 else 0 : Nat) := by
 rintro x y (rfl | ⟨n, rfl⟩ | rfl) (rfl | ⟨m, rfl⟩ | rfl) h <;> simp [Xf.meetV] at h ⊢
 all_goals first | (rw [if_neg h]; simp; done) | (exfalso; exact h rfl) | skip
theorem stpV_meet (v w : U) (h : meetV v w ≠ v) : stpV (meetV v w) < stpV v :=
 stpV_key v.1 w.1 (Xf.validV_cases v.2.1) (Xf.validV_cases w.2.1) (fun e => h (Subtype.ext e))
theorem kind_top {x : D} : x.1.k = 0 ↔ x = top := by
 constructor
 ·intro h
  refine Subtype.ext ?_
  rcases Xf.valid_cases x.2.1 with e | ⟨c, e⟩ | ⟨b, e⟩ | ⟨b, c, e⟩ | e <;> rw [e] at h ⊢ <;> first | rfl | (simp at h)
 ·intro h; rw [h]; rfl
end Iv
end Go.Df
namespace Go.Df
open Go.RowKit
namespace Iv
open Sp
structure Vb where
 ns : List Nd
 es : List Ed
 mn : Int
 F : Int
 fl : List (List Xp)
 sd : List Vs
def pf (p : Vb) : If.Pb := ⟨p.ns, p.es, p.mn, p.F, p.fl.map (List.map fun q => ⟨q.i, q.o⟩), p.sd.map fun s => ⟨s.n, s.f⟩⟩
def vErr (p : Vb) : Int := ideErr p.ns p.es p.mn p.F p.fl p.sd
structure VFit (p : Vb) : Prop where
 fl : ∀ k, ∀ q ∈ gl p.fl k, wrap64 q.b = q.b ∧ wrap64 q.c = q.c
 sd : ∀ s ∈ p.sd, wrap64 s.v = s.v
structure VOk (p : Vb) : Prop where
 sup : superErr p.ns p.es p.mn = 0
 f1 : 1 ≤ p.F
 f2 : p.F ≤ 1024
 len : p.fl.length = p.es.length
 fl : ∀ k, k < p.fl.length → (gl p.fl k).length ≤ 8192 ∧ (∀ j, j < (gl p.fl k).length → pairErr p.F (gl p.fl k) j = 0) ∧ 0 < (gl p.fl k).length ∧ gx (gl p.fl k) 0 = ⟨0, 0, 2, 0, 0⟩
 sd : ∀ j, j < p.sd.length → seedErr p.ns.length p.F p.sd j = 0
theorem vok_of {p : Vb} (h : vErr p = 0) : VOk p := by
 unfold vErr ideErr at h
 by_cases h1 : superErr p.ns p.es p.mn = 0
 case neg => rw [if_pos h1] at h; exact absurd h h1
 rw [if_neg (not_not_intro h1)] at h
 by_cases h2 : p.F < 1 ∨ 1024 < p.F
 ·rw [if_pos h2] at h; cases h
 rw [if_neg h2] at h
 by_cases h3 : p.fl.length = p.es.length
 case neg => rw [if_pos h3] at h; cases h
 rw [if_neg (not_not_intro h3)] at h
 by_cases h4 : fe (fun i => pairsErr p.F (gl p.fl i)) 0 p.fl.length = 0
 case neg => rw [if_pos h4] at h; exact absurd h h4
 rw [if_neg (not_not_intro h4)] at h
 refine ⟨h1, by omega, by omega, h3, fun k hk => ?_, fun j hj => Sp.fe_zero _ _ h j (Nat.zero_le _) (by omega)⟩
 have h5 := Sp.fe_zero _ _ h4 k (Nat.zero_le _) (by omega)
 unfold pairsErr at h5
 by_cases h6 : 8192 < (gl p.fl k).length
 ·rw [if_pos h6] at h5; cases h5
 rw [if_neg h6] at h5
 by_cases h7 : fe (pairErr p.F (gl p.fl k)) 0 (gl p.fl k).length = 0
 case neg => rw [if_pos h7] at h5; exact absurd h5 h7
 rw [if_neg (not_not_intro h7)] at h5
 by_cases h8 : (gl p.fl k).length = 0 ∨ gx (gl p.fl k) 0 ≠ ⟨0, 0, 2, 0, 0⟩
 ·rw [if_pos h8] at h5; cases h5
 ·rw [not_or, Classical.not_not] at h8
  exact ⟨by omega, fun j hj => Sp.fe_zero _ _ h7 j (Nat.zero_le _) (by omega), by omega, h8.2⟩
theorem pair_in {F : Int} {l : List Xp} {j : Nat} (h : pairErr F l j = 0) : 0 ≤ (gx l j).i ∧ (gx l j).i < F ∧ 0 ≤ (gx l j).o ∧ (gx l j).o < F ∧ xerr (gx l j).k (gx l j).b (gx l j).c = 0 ∧ (0 < j → lessP (gx l (j - 1)) (gx l j) = true) := by
 unfold pairErr at h
 split at h
 ·cases h
 ·split at h
  ·cases h
  ·rename_i h1 h2
   refine ⟨by omega, by omega, by omega, by omega, h, fun h3 => ?_⟩
   cases hh : lessP (gx l (j - 1)) (gx l j) with
   | true => rfl
   | false => exact absurd ⟨h3, hh⟩ h2
theorem gl_ge {ls : List (List Xp)} {i : Nat} (h : ls.length ≤ i) : gl ls i = [] := by simp [gl, h]
theorem mem_gx {l : List Xp} {q : Xp} (h : q ∈ l) : ∃ i, i < l.length ∧ gx l i = q := by
 obtain ⟨i, hi, rfl⟩ := List.getElem_of_mem h
 exact ⟨i, hi, gx_lt hi⟩
theorem gx_mem {l : List Xp} {i : Nat} (h : i < l.length) : gx l i ∈ l := by rw [gx_lt h]; exact List.getElem_mem h
theorem mem_gs {l : List Vs} {q : Vs} (h : q ∈ l) : ∃ i, i < l.length ∧ gs l i = q := by
 obtain ⟨i, hi, rfl⟩ := List.getElem_of_mem h
 exact ⟨i, hi, gs_lt hi⟩
theorem gs_mem {l : List Vs} {i : Nat} (h : i < l.length) : gs l i ∈ l := by rw [gs_lt h]; exact List.getElem_mem h
theorem mem_gl {ls : List (List Xp)} {k : Nat} {q : Xp} (h : q ∈ gl ls k) : k < ls.length := by
 rcases Nat.lt_or_ge k ls.length with h1 | h1
 ·exact h1
 ·rw [gl_ge h1] at h; cases h
theorem VOk.pair {p : Vb} (h : VOk p) {k : Nat} {q : Xp} (hq : q ∈ gl p.fl k) : 0 ≤ q.i ∧ q.i < p.F ∧ 0 ≤ q.o ∧ q.o < p.F ∧ xerr q.k q.b q.c = 0 := by
 obtain ⟨j, hj, rfl⟩ := mem_gx hq
 have h1 := pair_in ((h.fl k (mem_gl hq)).2.1 j hj)
 exact ⟨h1.1, h1.2.1, h1.2.2.1, h1.2.2.2.1, h1.2.2.2.2.1⟩
theorem VOk.seed {p : Vb} (h : VOk p) {s : Vs} (hs : s ∈ p.sd) : 0 ≤ s.n ∧ s.n < p.ns.length ∧ 1 ≤ s.f ∧ s.f < p.F ∧ verr s.k s.v = 0 := by
 obtain ⟨j, hj, rfl⟩ := mem_gs hs
 have h1 := h.sd j hj
 unfold seedErr at h1
 split at h1
 ·cases h1
 ·split at h1
  ·rename_i h2 h3; exact absurd h1 h3
  ·rename_i h2 h3
   exact ⟨by omega, by omega, by omega, by omega, Classical.not_not.mp h3⟩
theorem pf_gf (p : Vb) (k : Nat) : If.gf (pf p).fl k = (gl p.fl k).map fun q => ⟨q.i, q.o⟩ := by
 show If.gf (p.fl.map _) k = _
 unfold If.gf gl
 rw [List.getD_eq_getElem?_getD, List.getD_eq_getElem?_getD, List.getElem?_map]
 cases p.fl[k]? <;> rfl
theorem pf_gp (l : List Xp) (j : Nat) : If.gp (l.map fun q => ⟨q.i, q.o⟩) j = ⟨(gx l j).i, (gx l j).o⟩ := by
 unfold If.gp gx
 rw [List.getD_eq_getElem?_getD, List.getD_eq_getElem?_getD, List.getElem?_map]
 cases l[j]? <;> rfl
theorem pf_gd (l : List Vs) (j : Nat) : If.gd (l.map fun q => ⟨q.n, q.f⟩) j = ⟨(gs l j).n, (gs l j).f⟩ := by
 unfold If.gd gs
 rw [List.getD_eq_getElem?_getD, List.getD_eq_getElem?_getD, List.getElem?_map]
 cases l[j]? <;> rfl
theorem VOk.pf {p : Vb} (h : VOk p) : If.Ok (pf p) := by
 refine ⟨h.sup, h.f1, h.f2, by show (p.fl.map _).length = _; rw [List.length_map]; exact h.len, fun k hk => ?_, fun j hj => ?_⟩
 ·have hk' : k < p.fl.length := by have : k < (p.fl.map (List.map fun q => (⟨q.i, q.o⟩ : If.Pr))).length := hk; simpa using this
  have h1 := h.fl k hk'
  rw [pf_gf]
  refine ⟨by simpa using h1.1, fun j hj => ?_, by simpa using h1.2.2.1, by rw [pf_gp, h1.2.2.2]⟩
  have hj' : j < (gl p.fl k).length := by simpa using hj
  have h2 := pair_in (h1.2.1 j hj')
  unfold If.prErr
  rw [pf_gp, pf_gp]
  dsimp only
  have hF : (Iv.pf p).F = p.F := rfl
  rw [hF, if_neg (by omega), if_neg (fun hh => by
   have h3 := h2.2.2.2.2.2 hh.1
   have h4 : If.lessR ⟨(gx (gl p.fl k) (j - 1)).i, (gx (gl p.fl k) (j - 1)).o⟩ ⟨(gx (gl p.fl k) j).i, (gx (gl p.fl k) j).o⟩ = lessP (gx (gl p.fl k) (j - 1)) (gx (gl p.fl k) j) := rfl
   rw [h4, h3] at hh
   cases hh.2)]
 ·have hj' : j < p.sd.length := by have : j < (p.sd.map fun s => (⟨s.n, s.f⟩ : If.Sd)).length := hj; simpa using this
  have h1 := h.sd j hj'
  have h2 := h.seed (gs_mem hj')
  have e : (Iv.pf p).sd = p.sd.map fun s => ⟨s.n, s.f⟩ := rfl
  unfold If.sdErr
  rw [e, pf_gd, pf_gd]
  dsimp only
  have hF : (Iv.pf p).F = p.F := rfl
  have hN : (Iv.pf p).ns.length = p.ns.length := rfl
  rw [hF, hN, if_neg (by omega), if_neg (fun hh => ?_)]
  unfold seedErr at h1
  rw [if_neg (by omega), if_neg (by rw [h2.2.2.2.2]; simp)] at h1
  rw [if_pos ⟨hh.1, hh.2⟩] at h1
  cases h1
open Classical in
/-- The transformer of a pair. -/
noncomputable def xd (q : Xp) : D := if h : Go.Proofs.YtincpmdldpakkaaGreatDoor.Xf.rcheck ⟨q.k, q.b, q.c⟩ = 0 ∧ Go.Proofs.YtincpmdldpakkaaGreatDoor.Xf.fits ⟨q.k, q.b, q.c⟩ then mkD ⟨q.k, q.b, q.c⟩ h else top
theorem xerr_rcheck (k b c : Int) : xerr k b c = Go.Proofs.YtincpmdldpakkaaGreatDoor.Xf.rcheck ⟨k, b, c⟩ := by
 unfold xerr Go.Proofs.YtincpmdldpakkaaGreatDoor.Xf.rcheck
 rfl
theorem xd_is {q : Xp} (h : xerr q.k q.b q.c = 0) (hb : wrap64 q.b = q.b) (hc : wrap64 q.c = q.c) : (xd q).1 = ⟨q.k, q.b, q.c⟩ := by
 unfold xd
 split
 ·exact mkD_val _
 ·rename_i h1
  exact absurd ⟨by rw [← xerr_rcheck]; exact h, hb, hc⟩ h1
theorem xd_of {p : Vb} (ho : VOk p) (hf : VFit p) {k : Nat} {q : Xp} (hq : q ∈ gl p.fl k) : (xd q).1 = ⟨q.k, q.b, q.c⟩ :=
 xd_is (ho.pair hq).2.2.2.2 (hf.fl k q hq).1 (hf.fl k q hq).2
def sx (s : Vs) : D := if s.k = 1 then (if h : wrap64 s.v = s.v then mkD ⟨1, 0, s.v⟩ ⟨check_const s.v, wrap_zero, h⟩ else top) else if s.k = 2 then bot else top
structure Clo (p : Vb) (T : Nat → Nat → Nat → D) : Prop where
 main : le (T p.mn.toNat 0 0) shift
 seed : ∀ s ∈ p.sd, T s.n.toNat 0 0 ≠ top → le (T s.n.toNat 0 s.f.toNat) (sx s)
 flow : ∀ k, k < p.es.length → ((ge p.es k).k = 1 ∨ (ge p.es k).k = 5) → ∀ q ∈ gl p.fl k, ∀ a, le (T (ge p.es k).b.toNat a q.o.toNat) (comp (T (ge p.es k).a.toNat a q.i.toNat) (xd q))
 call : ∀ k, k < p.es.length → (ge p.es k).k = 2 → ∀ q ∈ gl p.fl k, ∀ a, T (ge p.es k).a.toNat a q.i.toNat ≠ top → xd q ≠ top → le (T (ge p.es k).b.toNat q.o.toNat q.o.toNat) shift
 ret : ∀ c, c < p.es.length → (ge p.es c).k = 2 → ∀ q ∈ gl p.fl c, ∀ r, r < p.es.length → ((ge p.es r).k = 3 ∨ (ge p.es r).k = 4) → ∀ s ∈ gl p.fl r, (ge p.es c).a = (ge p.es r).c → (gn p.ns (ge p.es c).b.toNat).f = (gn p.ns (ge p.es r).a.toNat).f →
  ∀ a, le (T (ge p.es r).b.toNat a s.o.toNat) (comp (comp (comp (T (ge p.es c).a.toNat a q.i.toNat) (xd q)) (T (ge p.es r).a.toNat q.o.toNat s.i.toNat)) (xd s))
def Snd (p : Vb) (T : Nat → Nat → Nat → D) : Prop := ∀ U, Clo p U → ∀ n a d, le (U n a d) (T n a d)
theorem clo_eq {p : Vb} {T U : Nat → Nat → Nat → D} (hT : Clo p T) (sT : Snd p T) (hU : Clo p U) (sU : Snd p U) (n a d : Nat) : T n a d = U n a d := le_antisymm (sU T hT n a d) (sT U hU n a d)
structure VClo (p : Vb) (T : Nat → Nat → Nat → D) (V : Nat → Nat → U) : Prop where
 main : leV (V p.mn.toNat 0) botV
 call : ∀ k, k < p.es.length → (ge p.es k).k = 2 → ∀ q ∈ gl p.fl k, ∀ a, leV (V (ge p.es k).b.toNat q.o.toNat) (app (comp (T (ge p.es k).a.toNat a q.i.toNat) (xd q)) (V (If.stOf p.ns (ge p.es k).a.toNat) a))
def VSnd (p : Vb) (T : Nat → Nat → Nat → D) (V : Nat → Nat → U) : Prop := ∀ Y, VClo p T Y → ∀ n a, leV (Y n a) (V n a)
theorem vclo_eq {p : Vb} {T : Nat → Nat → Nat → D} {V W : Nat → Nat → U} (hV : VClo p T V) (sV : VSnd p T V) (hW : VClo p T W) (sW : VSnd p T W) (n a : Nat) : V n a = W n a := leV_antisymm (sW V hV n a) (sV W hW n a)
def Glb (S : U → Prop) (v : U) : Prop := (∀ u, S u → leV v u) ∧ ∀ z, (∀ u, S u → leV z u) → leV z v
theorem Glb.eq {S : U → Prop} {v w : U} (h : Glb S v) (k : Glb S w) : v = w := leV_antisymm (k.2 v h.1) (h.2 w k.1)
theorem Glb.none {S : U → Prop} (h : ∀ u, ¬ S u) : Glb S topV := ⟨fun u hu => absurd hu (h u), fun z _ => leV_top z⟩
theorem Glb.add {S S' : U → Prop} {v u : U} (h : Glb S v) (hs : ∀ x, S' x ↔ S x ∨ x = u) : Glb S' (meetV v u) := by
 refine ⟨fun x hx => ?_, fun z hz => le_meetV (h.2 z fun x hx => hz x ((hs x).2 (.inl hx))) (hz u ((hs u).2 (.inr rfl)))⟩
 rcases (hs x).1 hx with h1 | rfl
 ·exact leV_trans (meetV_le_left v u) (h.1 x h1)
 ·exact meetV_le_right v x
theorem Glb.iff {S S' : U → Prop} {v : U} (h : Glb S v) (hs : ∀ x, S' x ↔ S x) : Glb S' v := ⟨fun u hu => h.1 u ((hs u).1 hu), fun z hz => h.2 z fun u hu => hz u ((hs u).2 hu)⟩
def At (p : Vb) (T : Nat → Nat → Nat → D) (V : Nat → Nat → U) (n d : Nat) (u : U) : Prop := ∃ a, u = app (T n a d) (V (If.stOf p.ns n) a)
end Iv
end Go.Df
