/- Texts: Ba Be Ia. -/
import Derived.IntWalk
import Derived.Test.YtincpmdldpakkaaDoorCi05
namespace Go.Proofs.YtincpmdldpakkaaDoor.Xf
open Go.RowKit
structure X where
 k : Int
 b : Int
 c : Int
structure V where
 k : Int
 n : Int
instance : DecidableEq X := fun x y =>
 if h : x.k = y.k ∧ x.b = y.b ∧ x.c = y.c then isTrue (by cases x; cases y; simp_all) else isFalse (by rintro rfl; exact h ⟨rfl, rfl, rfl⟩)
instance : DecidableEq V := fun v w =>
 if h : v.k = w.k ∧ v.n = w.n then isTrue (by cases v; cases w; simp_all) else isFalse (by rintro rfl; exact h ⟨rfl, rfl⟩)
def check (x : X) : Int :=
 if x.k = 3 then 0 else if x.k = 0 ∨ x.k = 4 then (if x.c ≠ 0 then 1 else if x.b ≠ 0 then 1 else 0)
 else if x.k = 1 then (if x.b ≠ 0 then 1 else 0) else if x.k = 2 then (if x.c ≠ 0 then 1 else 0) else 12
def rcheck (x : X) : Int :=
 if x.k < 0 ∨ x.k > 4 then 12 else
 if (x.b ≠ 0 ∧ x.k ≠ 2 ∧ x.k ≠ 3) ∨ (x.c ≠ 0 ∧ x.k ≠ 1 ∧ x.k ≠ 3) then 1 else 0
def checkV (v : V) : Int := if v.k = 0 ∨ v.k = 2 then (if v.n ≠ 0 then 1 else 0) else if v.k = 1 then 0 else 12
def rcheckV (v : V) : Int := if v.k < 0 ∨ v.k > 2 then 12 else if v.n ≠ 0 ∧ v.k ≠ 1 then 1 else 0
def sum (v : V) (b : Int) : V := if v.k = 1 then ⟨1, wrap64 (v.n + b)⟩ else v
def meetV (v w : V) : V := if v = w ∨ w.k = 0 then v else if v.k = 0 then w else ⟨2, 0⟩
def rmeetV (v w : V) : V := if v.k = 0 then w else if w.k = 0 ∨ v = w then v else ⟨2, 0⟩
def apply (x : X) (v : V) : V :=
 if v.k = 0 then ⟨0, 0⟩ else if x.k = 0 then ⟨0, 0⟩ else if x.k = 1 then ⟨1, x.c⟩ else if x.k = 2 then sum v x.b
 else if x.k = 3 then meetV (sum v x.b) ⟨1, x.c⟩ else ⟨2, 0⟩
def rapply (x : X) (v : V) : V :=
 if v.k = 0 then v else if x.k = 0 then ⟨0, 0⟩ else if x.k = 1 then ⟨1, x.c⟩ else if x.k = 2 then sum v x.b
 else if x.k = 3 then rmeetV (sum v x.b) ⟨1, x.c⟩ else ⟨2, 0⟩
def shifted (x : X) (n : Int) : X :=
 if x.k = 1 then ⟨1, 0, wrap64 (x.c + n)⟩ else if x.k = 2 then ⟨2, wrap64 (x.b + n), 0⟩
 else if x.k = 3 then ⟨3, wrap64 (x.b + n), wrap64 (x.c + n)⟩ else ⟨4, 0, 0⟩
def compose (x y : X) : X :=
 if x.k = 0 ∨ y.k = 0 then ⟨0, 0, 0⟩ else if y.k = 1 then y else if y.k = 2 then shifted x y.b
 else if y.k = 3 then
   (let f := shifted x y.b
    if f.k = 2 then ⟨3, f.b, y.c⟩ else if f.k = 1 ∨ f.k = 3 then (if f.c = y.c then f else ⟨4, 0, 0⟩) else ⟨4, 0, 0⟩)
 else ⟨4, 0, 0⟩
def rcompose (x y : X) : X :=
 if x.k = 0 ∨ y.k = 0 then ⟨0, 0, 0⟩ else if y.k = 1 ∨ y.k = 4 then y else if x.k = 4 then x
 else if x.k = 1 then (let v := rapply y ⟨1, x.c⟩; if v.k = 1 then ⟨1, 0, v.n⟩ else ⟨4, 0, 0⟩)
 else if x.k = 2 then ⟨y.k, wrap64 (x.b + y.b), y.c⟩
 else (let v := rapply y ⟨1, x.c⟩; if v.k = 1 then ⟨3, wrap64 (x.b + y.b), v.n⟩ else ⟨4, 0, 0⟩)
def meet (x y : X) : X :=
 if x = y ∨ y.k = 0 then x else if x.k = 0 then y else if x.k = 4 ∨ y.k = 4 then ⟨4, 0, 0⟩
 else if x.k ≠ 1 ∧ y.k ≠ 1 ∧ y.b ≠ x.b then ⟨4, 0, 0⟩
 else if x.k ≠ 2 ∧ y.k ≠ 2 ∧ y.c ≠ x.c then ⟨4, 0, 0⟩
 else ⟨3, if y.k ≠ 1 then y.b else if x.k ≠ 1 then x.b else 0, if y.k ≠ 2 then y.c else if x.k ≠ 2 then x.c else 0⟩
def rmeet1 (x y : X) : X :=
 if x.k = 1 ∧ y.k = 2 then ⟨3, y.b, x.c⟩ else if x.k = 1 ∧ y.k = 3 ∧ x.c = y.c then y
 else if x.k = 2 ∧ y.k = 3 ∧ x.b = y.b then y else ⟨4, 0, 0⟩
def rmeet (x y : X) : X :=
 if x.k = 0 then y else if y.k = 0 ∨ x = y then x else if x.k > y.k then rmeet1 y x else rmeet1 x y
def below (v w : V) : Bool := w.k = 0 ∨ v.k = 2 ∨ v = w
def rbelow (v w : V) : Bool := v = w ∨ v.k = 2 ∨ w.k = 0
def steps (x : X) : Int := if x.k = 0 then 3 else if x.k = 1 ∨ x.k = 2 then 2 else if x.k = 3 then 1 else 0
theorem valid_cases {x : X} (h : rcheck x = 0) : x = ⟨0, 0, 0⟩ ∨ (∃ c, x = ⟨1, 0, c⟩) ∨ (∃ b, x = ⟨2, b, 0⟩) ∨ (∃ b c, x = ⟨3, b, c⟩) ∨ x = ⟨4, 0, 0⟩ := by
 obtain ⟨k, b, c⟩ := x
 simp only [rcheck] at h
 split at h
 · omega
 · split at h
   · omega
   · rename_i h1 h2
     simp only [not_or, not_and, Int.not_lt] at h1 h2
     obtain ⟨h1a, h1b⟩ := h1
     have hk : k = 0 ∨ k = 1 ∨ k = 2 ∨ k = 3 ∨ k = 4 := by omega
     rcases hk with rfl | rfl | rfl | rfl | rfl <;> simp_all
theorem validV_cases {v : V} (h : rcheckV v = 0) : v = ⟨0, 0⟩ ∨ (∃ n, v = ⟨1, n⟩) ∨ v = ⟨2, 0⟩ := by
 obtain ⟨k, n⟩ := v
 simp only [rcheckV] at h
 split at h
 · omega
 · split at h
   · omega
   · rename_i h1 h2
     simp only [not_or, not_and, Int.not_lt] at h1 h2
     obtain ⟨h1a, h1b⟩ := h1
     have hk : k = 0 ∨ k = 1 ∨ k = 2 := by omega
     rcases hk with rfl | rfl | rfl <;> simp_all
theorem wrap_add (a b : Int) : wrap64 (wrap64 a + b) = wrap64 (a + b) := by unfold wrap64; omega
theorem wrap_add' (a b : Int) : wrap64 (a + wrap64 b) = wrap64 (a + b) := by unfold wrap64; omega
theorem wrap_inj {a b n : Int} (ha : wrap64 a = a) (hb : wrap64 b = b) : wrap64 (a + n) = wrap64 (b + n) ↔ a = b := by
 unfold wrap64 at *
 constructor <;> intro h <;> omega
/- The lattice laws, on valid transformers whose numbers fit. -/
def fits (x : X) : Prop := wrap64 x.b = x.b ∧ wrap64 x.c = x.c
theorem check_compose {x y : X} (hx : rcheck x = 0) (hy : rcheck y = 0) : rcheck (compose x y) = 0 := by
 rcases valid_cases hx with rfl | ⟨c, rfl⟩ | ⟨b, rfl⟩ | ⟨b, c, rfl⟩ | rfl <;> rcases valid_cases hy with rfl | ⟨c', rfl⟩ | ⟨b', rfl⟩ | ⟨b', c', rfl⟩ | rfl <;>
   simp [compose, shifted]
 all_goals (repeat' split) <;> simp [rcheck]
theorem check_meet {x y : X} (hx : rcheck x = 0) (hy : rcheck y = 0) : rcheck (meet x y) = 0 := by
 rcases valid_cases hx with rfl | ⟨c, rfl⟩ | ⟨b, rfl⟩ | ⟨b, c, rfl⟩ | rfl <;> rcases valid_cases hy with rfl | ⟨c', rfl⟩ | ⟨b', rfl⟩ | ⟨b', c', rfl⟩ | rfl <;>
   simp [meet]
 all_goals (repeat' split) <;> simp [rcheck]
def add64 (a b : Int) : Int := wrap64 (a + b)
theorem add64_def (a b : Int) : wrap64 (a + b) = add64 a b := rfl
theorem add64_assoc (a b c : Int) : add64 (add64 a b) c = add64 a (add64 b c) := by unfold add64; rw [wrap_add, wrap_add', Int.add_assoc]
theorem add64_shift {a m n c : Int} (h : wrap64 c = c) : add64 a (add64 m n) = add64 c n ↔ add64 a m = c := by
 unfold add64
 rw [wrap_add']
 unfold wrap64 at *
 constructor <;> intro h' <;> omega
theorem add64_left {n a c : Int} (h : wrap64 a = a) (k : wrap64 c = c) : add64 n a = add64 n c ↔ a = c := by
 unfold add64 wrap64 at *
 constructor <;> intro h' <;> omega
set_option maxHeartbeats 2000000 in
theorem meet_assoc {x y z : X} (hx : rcheck x = 0) (hy : rcheck y = 0) (hz : rcheck z = 0) : meet (meet x y) z = meet x (meet y z) := by
 have W2 : ∀ a m n c, wrap64 c = c → (add64 a (add64 m n) = add64 c n ↔ add64 a m = c) := fun a m n c h => add64_shift h
 have W1 : ∀ a n c, wrap64 a = a → wrap64 c = c → (add64 a n = add64 c n ↔ a = c) := fun a n c h k => wrap_inj h k
 have W3 : ∀ a m n, add64 (add64 a m) n = add64 a (add64 m n) := add64_assoc
 rcases valid_cases hx with rfl | ⟨c, rfl⟩ | ⟨b, rfl⟩ | ⟨b, c, rfl⟩ | rfl <;> rcases valid_cases hy with rfl | ⟨c', rfl⟩ | ⟨b', rfl⟩ | ⟨b', c', rfl⟩ | rfl <;> rcases valid_cases hz with rfl | ⟨c2, rfl⟩ | ⟨b2, rfl⟩ | ⟨b2, c2, rfl⟩ | rfl <;>
   simp [meet]
 all_goals grind
set_option maxHeartbeats 2000000 in
theorem compose_meet {x y z : X} (hx : rcheck x = 0) (hy : rcheck y = 0) (hz : rcheck z = 0) (fy : fits y) (fz : fits z) : compose x (meet y z) = meet (compose x y) (compose x z) := by
 have W2 : ∀ a m n c, wrap64 c = c → (add64 a (add64 m n) = add64 c n ↔ add64 a m = c) := fun a m n c h => add64_shift h
 have W1 : ∀ a n c, wrap64 a = a → wrap64 c = c → (add64 a n = add64 c n ↔ a = c) := fun a n c h k => wrap_inj h k
 have W4 : ∀ n a c, wrap64 a = a → wrap64 c = c → (add64 n a = add64 n c ↔ a = c) := fun n a c h k => add64_left h k
 have W3 : ∀ a m n, add64 (add64 a m) n = add64 a (add64 m n) := add64_assoc
 rcases valid_cases hx with rfl | ⟨c, rfl⟩ | ⟨b, rfl⟩ | ⟨b, c, rfl⟩ | rfl <;> rcases valid_cases hy with rfl | ⟨c', rfl⟩ | ⟨b', rfl⟩ | ⟨b', c', rfl⟩ | rfl <;> rcases valid_cases hz with rfl | ⟨c2, rfl⟩ | ⟨b2, rfl⟩ | ⟨b2, c2, rfl⟩ | rfl <;>
   simp [compose, shifted, meet, add64_def]
 all_goals simp only [fits] at *
 all_goals grind
set_option maxHeartbeats 2000000 in
theorem meet_compose {x y z : X} (hx : rcheck x = 0) (hy : rcheck y = 0) (hz : rcheck z = 0) (fx : fits x) (fy : fits y) : compose (meet x y) z = meet (compose x z) (compose y z) := by
 have W2 : ∀ a m n c, wrap64 c = c → (add64 a (add64 m n) = add64 c n ↔ add64 a m = c) := fun a m n c h => add64_shift h
 have W1 : ∀ a n c, wrap64 a = a → wrap64 c = c → (add64 a n = add64 c n ↔ a = c) := fun a n c h k => wrap_inj h k
 have W3 : ∀ a m n, add64 (add64 a m) n = add64 a (add64 m n) := add64_assoc
 rcases valid_cases hx with rfl | ⟨c, rfl⟩ | ⟨b, rfl⟩ | ⟨b, c, rfl⟩ | rfl <;> rcases valid_cases hy with rfl | ⟨c', rfl⟩ | ⟨b', rfl⟩ | ⟨b', c', rfl⟩ | rfl <;> rcases valid_cases hz with rfl | ⟨c2, rfl⟩ | ⟨b2, rfl⟩ | ⟨b2, c2, rfl⟩ | rfl <;>
   simp [compose, shifted, meet, add64_def]
 all_goals simp only [fits] at *
 all_goals grind
theorem meet_comm {x y : X} (hx : rcheck x = 0) (hy : rcheck y = 0) : meet x y = meet y x := by
 rcases valid_cases hx with rfl | ⟨c, rfl⟩ | ⟨b, rfl⟩ | ⟨b, c, rfl⟩ | rfl <;> rcases valid_cases hy with rfl | ⟨c', rfl⟩ | ⟨b', rfl⟩ | ⟨b', c', rfl⟩ | rfl <;> simp [meet]
 all_goals grind
theorem meet_self (x : X) : meet x x = x := by simp [meet]
theorem meet_top (x : X) : meet x ⟨0, 0, 0⟩ = x := by simp [meet]
theorem steps_meet {x y : X} (hx : rcheck x = 0) (hy : rcheck y = 0) : meet x y = x ∨ steps (meet x y) < steps x := by
 rcases valid_cases hx with rfl | ⟨c, rfl⟩ | ⟨b, rfl⟩ | ⟨b, c, rfl⟩ | rfl <;> rcases valid_cases hy with rfl | ⟨c', rfl⟩ | ⟨b', rfl⟩ | ⟨b', c', rfl⟩ | rfl <;> simp [meet]
 all_goals grind [steps]
theorem steps_nonneg (x : X) : 0 ≤ steps x := by unfold steps; repeat' split
                                                 all_goals omega
set_option maxHeartbeats 1000000 in
theorem apply_meet {x y : X} {v : V} (hx : rcheck x = 0) (hy : rcheck y = 0) (hv : rcheckV v = 0) (fx : fits x) (fy : fits y) : apply (meet x y) v = meetV (apply x v) (apply y v) := by
 have W4 : ∀ n a c, wrap64 a = a → wrap64 c = c → (add64 n a = add64 n c ↔ a = c) := fun n a c h k => add64_left h k
 rcases valid_cases hx with rfl | ⟨c, rfl⟩ | ⟨b, rfl⟩ | ⟨b, c, rfl⟩ | rfl <;> rcases valid_cases hy with rfl | ⟨c', rfl⟩ | ⟨b', rfl⟩ | ⟨b', c', rfl⟩ | rfl <;> rcases validV_cases hv with rfl | ⟨n, rfl⟩ | rfl <;> simp [meet, apply, sum, meetV, add64_def]
 all_goals simp only [fits] at *
 all_goals grind
set_option maxHeartbeats 1000000 in
theorem apply_meetV {x : X} {v w : V} (hx : rcheck x = 0) (hv : rcheckV v = 0) (hw : rcheckV w = 0) (fv : wrap64 v.n = v.n) (fw : wrap64 w.n = w.n) : apply x (meetV v w) = meetV (apply x v) (apply x w) := by
 have W1 : ∀ a n c, wrap64 a = a → wrap64 c = c → (add64 a n = add64 c n ↔ a = c) := fun a n c h k => wrap_inj h k
 rcases valid_cases hx with rfl | ⟨c, rfl⟩ | ⟨b, rfl⟩ | ⟨b, c, rfl⟩ | rfl <;> rcases validV_cases hv with rfl | ⟨n, rfl⟩ | rfl <;> rcases validV_cases hw with rfl | ⟨m, rfl⟩ | rfl <;> simp [apply, sum, meetV, add64_def]
 all_goals grind
theorem check_apply {x : X} {v : V} (hx : rcheck x = 0) (hv : rcheckV v = 0) : rcheckV (apply x v) = 0 := by
 rcases valid_cases hx with rfl | ⟨c, rfl⟩ | ⟨b, rfl⟩ | ⟨b, c, rfl⟩ | rfl <;> rcases validV_cases hv with rfl | ⟨n, rfl⟩ | rfl <;> simp [apply, sum, meetV]
 all_goals (repeat' split) <;> simp [rcheckV]
end Go.Proofs.YtincpmdldpakkaaDoor.Xf
namespace Go.Df
namespace Iv
open Go.RowKit Go.Proofs.YtincpmdldpakkaaDoor
theorem wrap_wrap (a : Int) : wrap64 (wrap64 a) = wrap64 a := by unfold wrap64; omega
theorem wrap_zero : wrap64 0 = 0 := by unfold wrap64; omega
theorem fits_shifted (x : Xf.X) (n : Int) : Xf.fits (Xf.shifted x n) := by
 unfold Xf.shifted Xf.fits
 (repeat' split) <;> simp [wrap_wrap, wrap_zero]
theorem fits_compose {x y : Xf.X} (hy : Xf.fits y) : Xf.fits (Xf.compose x y) := by
 have hs := fits_shifted x y.b
 unfold Xf.compose
 dsimp only
 (repeat' split) <;> first | exact hs | exact hy | exact ⟨wrap_zero, wrap_zero⟩ | exact ⟨hs.1, hy.2⟩
theorem fits_meet {x y : Xf.X} (hx : Xf.fits x) (hy : Xf.fits y) : Xf.fits (Xf.meet x y) := by
 unfold Xf.meet
 (repeat' split) <;> first | exact hx | exact hy | exact ⟨wrap_zero, wrap_zero⟩ | exact ⟨by (first | exact hx.1 | exact hy.1 | exact wrap_zero), by (first | exact hx.2 | exact hy.2 | exact wrap_zero)⟩
theorem fits_apply {x : Xf.X} {v : Xf.V} (hx : Xf.fits x) (hv : wrap64 v.n = v.n) : wrap64 (Xf.apply x v).n = (Xf.apply x v).n := by
 unfold Xf.apply Xf.sum Xf.meetV
 (repeat' split) <;> first | exact hv | exact wrap_zero | exact hx.2 | exact wrap_wrap _ | (simp [wrap_wrap, wrap_zero, hx.2, hv]; done)
theorem fits_meetV {v w : Xf.V} (hv : wrap64 v.n = v.n) (hw : wrap64 w.n = w.n) : wrap64 (Xf.meetV v w).n = (Xf.meetV v w).n := by
 unfold Xf.meetV
 (repeat' split) <;> first | exact hv | exact hw | exact wrap_zero
def D : Type := { x : Xf.X // Xf.rcheck x = 0 ∧ Xf.fits x }
def U : Type := { v : Xf.V // Xf.rcheckV v = 0 ∧ wrap64 v.n = v.n }
instance : DecidableEq D := fun x y => if h : x.1 = y.1 then isTrue (Subtype.ext h) else isFalse (fun e => h (congrArg Subtype.val e))
instance : DecidableEq U := fun x y => if h : x.1 = y.1 then isTrue (Subtype.ext h) else isFalse (fun e => h (congrArg Subtype.val e))
def mkD (x : Xf.X) (h : Xf.rcheck x = 0 ∧ Xf.fits x) : D := ⟨x, h⟩
theorem mkD_val {x : Xf.X} (h : Xf.rcheck x = 0 ∧ Xf.fits x) : (mkD x h).1 = x := rfl
theorem check_const (v : Int) : Xf.rcheck ⟨1, 0, v⟩ = 0 := by unfold Xf.rcheck; simp
def top : D := ⟨⟨0, 0, 0⟩, by decide, wrap_zero, wrap_zero⟩
def shift : D := ⟨⟨2, 0, 0⟩, by decide, wrap_zero, wrap_zero⟩
def bot : D := ⟨⟨4, 0, 0⟩, by decide, wrap_zero, wrap_zero⟩
def meet (x y : D) : D := ⟨Xf.meet x.1 y.1, Xf.check_meet x.2.1 y.2.1, fits_meet x.2.2 y.2.2⟩
def comp (x y : D) : D := ⟨Xf.compose x.1 y.1, Xf.check_compose x.2.1 y.2.1, fits_compose y.2.2⟩
def topV : U := ⟨⟨0, 0⟩, by decide, wrap_zero⟩
def botV : U := ⟨⟨2, 0⟩, by decide, wrap_zero⟩
theorem check_meetV {v w : Xf.V} (hv : Xf.rcheckV v = 0) (hw : Xf.rcheckV w = 0) : Xf.rcheckV (Xf.meetV v w) = 0 := by
 unfold Xf.meetV
 (repeat' split) <;> first | exact hv | exact hw | decide
def meetV (v w : U) : U := ⟨Xf.meetV v.1 w.1, check_meetV v.2.1 w.2.1, fits_meetV v.2.2 w.2.2⟩
def app (x : D) (v : U) : U := ⟨Xf.apply x.1 v.1, Xf.check_apply x.2.1 v.2.1, fits_apply x.2.2 v.2.2⟩
theorem meet_self (x : D) : meet x x = x := Subtype.ext (Xf.meet_self _)
theorem meet_comm (x y : D) : meet x y = meet y x := Subtype.ext (Xf.meet_comm x.2.1 y.2.1)
theorem meet_assoc (x y z : D) : meet (meet x y) z = meet x (meet y z) := Subtype.ext (Xf.meet_assoc x.2.1 y.2.1 z.2.1)
theorem meet_top (x : D) : meet x top = x := Subtype.ext (Xf.meet_top _)
theorem top_meet (x : D) : meet top x = x := by rw [meet_comm, meet_top]
theorem comp_top (x : D) : comp x top = top := Subtype.ext (by show Xf.compose x.1 ⟨0, 0, 0⟩ = ⟨0, 0, 0⟩; unfold Xf.compose; rw [if_pos (Or.inr rfl)])
theorem top_comp (x : D) : comp top x = top := Subtype.ext (by show Xf.compose ⟨0, 0, 0⟩ x.1 = ⟨0, 0, 0⟩; unfold Xf.compose; rw [if_pos (Or.inl rfl)])
theorem comp_meet (x y z : D) : comp x (meet y z) = meet (comp x y) (comp x z) := Subtype.ext (Xf.compose_meet x.2.1 y.2.1 z.2.1 y.2.2 z.2.2)
theorem meet_comp (x y z : D) : comp (meet x y) z = meet (comp x z) (comp y z) := Subtype.ext (Xf.meet_compose x.2.1 y.2.1 z.2.1 x.2.2 y.2.2)
theorem app_meet (x y : D) (v : U) : app (meet x y) v = meetV (app x v) (app y v) := Subtype.ext (Xf.apply_meet x.2.1 y.2.1 v.2.1 x.2.2 y.2.2)
theorem app_meetV (x : D) (v w : U) : app x (meetV v w) = meetV (app x v) (app x w) := Subtype.ext (Xf.apply_meetV x.2.1 v.2.1 w.2.1 v.2.2 w.2.2)
theorem app_topV (x : D) : app x topV = topV := Subtype.ext (by show Xf.apply x.1 ⟨0, 0⟩ = ⟨0, 0⟩; unfold Xf.apply; rw [if_pos rfl])
theorem top_app (v : U) : app top v = topV := Subtype.ext (by show Xf.apply ⟨0, 0, 0⟩ v.1 = ⟨0, 0⟩; unfold Xf.apply; split <;> first | rfl | (rw [if_pos rfl]))
theorem shift_app (v : U) : app shift v = v := Subtype.ext (by
 show Xf.apply ⟨2, 0, 0⟩ v.1 = v.1
 have hf := v.2.2
 rcases Xf.validV_cases v.2.1 with h | ⟨n, h⟩ | h <;> rw [h] at hf ⊢ <;> simp [Xf.apply, Xf.sum] <;> exact hf)
theorem meetV_self (v : U) : meetV v v = v := Subtype.ext (by show Xf.meetV v.1 v.1 = v.1; unfold Xf.meetV; rw [if_pos (Or.inl rfl)])
theorem meetV_comm (v w : U) : meetV v w = meetV w v := Subtype.ext (by
 show Xf.meetV v.1 w.1 = Xf.meetV w.1 v.1
 rcases Xf.validV_cases v.2.1 with h | ⟨n, h⟩ | h <;> rcases Xf.validV_cases w.2.1 with k | ⟨m, k⟩ | k <;> rw [h, k] <;> simp [Xf.meetV] <;> grind)
theorem meetV_assoc (u v w : U) : meetV (meetV u v) w = meetV u (meetV v w) := Subtype.ext (by
 show Xf.meetV (Xf.meetV u.1 v.1) w.1 = Xf.meetV u.1 (Xf.meetV v.1 w.1)
 rcases Xf.validV_cases u.2.1 with g | ⟨l, g⟩ | g <;> rcases Xf.validV_cases v.2.1 with h | ⟨n, h⟩ | h <;> rcases Xf.validV_cases w.2.1 with k | ⟨m, k⟩ | k <;> rw [g, h, k] <;> simp [Xf.meetV] <;> grind)
theorem meetV_top (v : U) : meetV v topV = v := Subtype.ext (by show Xf.meetV v.1 ⟨0, 0⟩ = v.1; unfold Xf.meetV; rw [if_pos (Or.inr rfl)])
theorem top_meetV (v : U) : meetV topV v = v := by rw [meetV_comm, meetV_top]
def le (x y : D) : Prop := meet y x = x
def leV (v w : U) : Prop := meetV w v = v
theorem le_refl (x : D) : le x x := meet_self x
theorem le_top (x : D) : le x top := top_meet x
theorem le_trans {x y z : D} (h : le x y) (k : le y z) : le x z := by
 unfold le at *
 rw [← h, ← meet_assoc, k]
theorem le_antisymm {x y : D} (h : le x y) (k : le y x) : x = y := by
 unfold le at *
 rw [← h, meet_comm, k]
theorem meet_le_left (x y : D) : le (meet x y) x := by unfold le; rw [← meet_assoc, meet_self]
theorem meet_le_right (x y : D) : le (meet x y) y := by rw [meet_comm]; exact meet_le_left y x
theorem le_meet {x y z : D} (h : le z x) (k : le z y) : le z (meet x y) := by
 unfold le at *
 rw [meet_assoc, k, h]
theorem meet_eq_iff {x y : D} : meet x y = x ↔ le x y := by unfold le; rw [meet_comm]
theorem comp_mono {x x' y y' : D} (h : le x x') (k : le y y') : le (comp x y) (comp x' y') := by
 refine le_trans (y := comp x' y) ?_ ?_
 · unfold le at *; rw [← meet_comp, h]
 · unfold le at *; rw [← comp_meet, k]
theorem leV_refl (x : U) : leV x x := meetV_self x
theorem leV_top (x : U) : leV x topV := top_meetV x
theorem leV_trans {x y z : U} (h : leV x y) (k : leV y z) : leV x z := by
 unfold leV at *
 rw [← h, ← meetV_assoc, k]
theorem leV_antisymm {x y : U} (h : leV x y) (k : leV y x) : x = y := by
 unfold leV at *
 rw [← h, meetV_comm, k]
theorem meetV_le_left (x y : U) : leV (meetV x y) x := by unfold leV; rw [← meetV_assoc, meetV_self]
theorem meetV_le_right (x y : U) : leV (meetV x y) y := by rw [meetV_comm]; exact meetV_le_left y x
theorem le_meetV {x y z : U} (h : leV z x) (k : leV z y) : leV z (meetV x y) := by
 unfold leV at *
 rw [meetV_assoc, k, h]
theorem app_mono {x x' : D} {v v' : U} (h : le x x') (k : leV v v') : leV (app x v) (app x' v') := by
 refine leV_trans (y := app x' v) ?_ ?_
 · unfold le leV at *; rw [← app_meet, h]
 · unfold leV at *; rw [← app_meetV, k]
def stp (x : D) : Nat := (Xf.steps x.1).toNat
theorem stp_meet (x y : D) (h : meet x y ≠ x) : stp (meet x y) < stp x := by
 have h1 := Xf.steps_nonneg (meet x y).1
 rcases Xf.steps_meet x.2.1 y.2.1 with h2 | h2
 · exact absurd (Subtype.ext h2) h
 · have h3 : Xf.steps (meet x y).1 < Xf.steps x.1 := h2
   unfold stp
   omega
theorem stp_mono {x y : D} (h : le x y) : stp x ≤ stp y := by
 by_cases e : x = y
 · rw [e]; exact Nat.le_refl _
 · have h1 : meet y x ≠ y := by rw [h]; exact e
   have h2 := stp_meet y x h1
   rw [h] at h2
   omega
def stpV (v : U) : Nat := if v.1.k = 0 then 2 else if v.1.k = 1 then 1 else 0
theorem stpV_key : ∀ (x y : Xf.V), (x = ⟨0, 0⟩ ∨ (∃ n, x = ⟨1, n⟩) ∨ x = ⟨2, 0⟩) → (y = ⟨0, 0⟩ ∨ (∃ n, y = ⟨1, n⟩) ∨ y = ⟨2, 0⟩) → Xf.meetV x y ≠ x →
   (if (Xf.meetV x y).k = 0 then 2 else if (Xf.meetV x y).k = 1 then 1 else 0) < (if x.k = 0 then 2 else if x.k = 1 then 1 else 0 : Nat) := by
 rintro x y (rfl | ⟨n, rfl⟩ | rfl) (rfl | ⟨m, rfl⟩ | rfl) h <;> simp [Xf.meetV] at h ⊢
 all_goals first | (rw [if_neg h]; simp; done) | (exfalso; exact h rfl) | skip
theorem stpV_meet (v w : U) (h : meetV v w ≠ v) : stpV (meetV v w) < stpV v :=
 stpV_key v.1 w.1 (Xf.validV_cases v.2.1) (Xf.validV_cases w.2.1) (fun e => h (Subtype.ext e))
theorem kind_top {x : D} : x.1.k = 0 ↔ x = top := by
 constructor
 · intro h
   refine Subtype.ext ?_
   rcases Xf.valid_cases x.2.1 with e | ⟨c, e⟩ | ⟨b, e⟩ | ⟨b, c, e⟩ | e <;> rw [e] at h ⊢ <;> first | rfl | (simp at h)
 · intro h; rw [h]; rfl
end Iv
end Go.Df
namespace Go.Df
open Go.RowKit
namespace If
open Sp
structure Pr where
 i : Int
 o : Int
deriving DecidableEq
structure Sd where
 n : Int
 f : Int
deriving DecidableEq
def gp (l : List Pr) (i : Nat) : Pr := l.getD i ⟨0, 0⟩
def gd (l : List Sd) (i : Nat) : Sd := l.getD i ⟨0, 0⟩
def gf (ls : List (List Pr)) (i : Nat) : List Pr := ls.getD i []
theorem gp_lt {l : List Pr} {i : Nat} (h : i < l.length) : gp l i = l[i] := by simp [gp, h]
theorem gd_lt {l : List Sd} {i : Nat} (h : i < l.length) : gd l i = l[i] := by simp [gd, h]
theorem gp_mem {l : List Pr} {i : Nat} (h : i < l.length) : gp l i ∈ l := by rw [gp_lt h]; exact List.getElem_mem h
theorem gd_mem {l : List Sd} {i : Nat} (h : i < l.length) : gd l i ∈ l := by rw [gd_lt h]; exact List.getElem_mem h
theorem mem_gp {l : List Pr} {q : Pr} (h : q ∈ l) : ∃ i, i < l.length ∧ gp l i = q := by
 obtain ⟨i, hi, rfl⟩ := List.getElem_of_mem h
 exact ⟨i, hi, gp_lt hi⟩
theorem mem_gd {l : List Sd} {q : Sd} (h : q ∈ l) : ∃ i, i < l.length ∧ gd l i = q := by
 obtain ⟨i, hi, rfl⟩ := List.getElem_of_mem h
 exact ⟨i, hi, gd_lt hi⟩
def lessR (a b : Pr) : Bool := if a.i ≠ b.i then decide (a.i < b.i) else decide (a.o < b.o)
def lessD (a b : Sd) : Bool := if a.n ≠ b.n then decide (a.n < b.n) else decide (a.f < b.f)
def prErr (F : Int) (l : List Pr) (j : Nat) : Int :=
 if (gp l j).i < 0 ∨ F ≤ (gp l j).i ∨ (gp l j).o < 0 ∨ F ≤ (gp l j).o then 4 else if 0 < j ∧ lessR (gp l (j - 1)) (gp l j) = false then 13 else 0
def flErr (F : Int) (l : List Pr) : Int :=
 if F < 1 ∨ 1024 < F then 4 else if 8192 < l.length then 3 else if fe (prErr F l) 0 l.length ≠ 0 then fe (prErr F l) 0 l.length else if l.length = 0 ∨ gp l 0 ≠ ⟨0, 0⟩ then 1 else 0
def sdErr (N : Nat) (F : Int) (l : List Sd) (j : Nat) : Int :=
 if (gd l j).n < 0 ∨ (N : Int) ≤ (gd l j).n ∨ (gd l j).f < 1 ∨ F ≤ (gd l j).f then 4 else if 0 < j ∧ lessD (gd l (j - 1)) (gd l j) = false then 13 else 0
structure Pb where
 ns : List Nd
 es : List Ed
 mn : Int
 F : Int
 fl : List (List Pr)
 sd : List Sd
def pbErr (p : Pb) : Int :=
 if superErr p.ns p.es p.mn ≠ 0 then superErr p.ns p.es p.mn else if p.F < 1 ∨ 1024 < p.F then 4 else if p.fl.length ≠ p.es.length then 20
 else if fe (fun i => flErr p.F (gf p.fl i)) 0 p.fl.length ≠ 0 then fe (fun i => flErr p.F (gf p.fl i)) 0 p.fl.length else fe (sdErr p.ns.length p.F p.sd) 0 p.sd.length
theorem fl_hit {F : Int} {l : List Pr} {e : Int} {j : Nat} (h0 : 1 ≤ F) (h2 : F ≤ 1024) (h1 : l.length ≤ 8192) (h : ∀ x, x < j → prErr F l x = 0) (hj : j < l.length) (he : prErr F l j = e) (hn : e ≠ 0) : flErr F l = e := by
 unfold flErr
 rw [if_neg (by omega), if_neg (by omega), fe_hit h hj he hn, if_pos hn]
theorem fl_end {F : Int} {l : List Pr} (h0 : 1 ≤ F) (h2 : F ≤ 1024) (h1 : l.length ≤ 8192) (h : ∀ x, x < l.length → prErr F l x = 0) : flErr F l = if l.length = 0 ∨ gp l 0 ≠ ⟨0, 0⟩ then 1 else 0 := by
 unfold flErr
 rw [if_neg (by omega), if_neg (by omega), fe_ok l.length 0 (fun i _ hi => h i (by omega)), if_neg (by simp)]
theorem pb_flow {p : Pb} {e : Int} {j : Nat} (h1 : superErr p.ns p.es p.mn = 0) (h2 : ¬ (p.F < 1 ∨ 1024 < p.F)) (h3 : p.fl.length = p.es.length)
   (h : ∀ x, x < j → flErr p.F (gf p.fl x) = 0) (hj : j < p.fl.length) (he : flErr p.F (gf p.fl j) = e) (h0 : e ≠ 0) : pbErr p = e := by
 unfold pbErr
 rw [if_neg (not_not_intro h1), if_neg h2, if_neg (not_not_intro h3), fe_hit h hj he h0, if_pos h0]
theorem pb_seed {p : Pb} {e : Int} {j : Nat} (h1 : superErr p.ns p.es p.mn = 0) (h2 : ¬ (p.F < 1 ∨ 1024 < p.F)) (h3 : p.fl.length = p.es.length)
   (h4 : ∀ x, x < p.fl.length → flErr p.F (gf p.fl x) = 0) (h : ∀ x, x < j → sdErr p.ns.length p.F p.sd x = 0) (hj : j < p.sd.length) (he : sdErr p.ns.length p.F p.sd j = e) (h0 : e ≠ 0) : pbErr p = e := by
 unfold pbErr
 rw [if_neg (not_not_intro h1), if_neg h2, if_neg (not_not_intro h3), fe_ok p.fl.length 0 (fun i _ hi => h4 i (by omega)), if_neg (by simp), fe_hit h hj he h0]
theorem pb_ok {p : Pb} (h1 : superErr p.ns p.es p.mn = 0) (h2 : ¬ (p.F < 1 ∨ 1024 < p.F)) (h3 : p.fl.length = p.es.length)
   (h4 : ∀ x, x < p.fl.length → flErr p.F (gf p.fl x) = 0) (h : ∀ x, x < p.sd.length → sdErr p.ns.length p.F p.sd x = 0) : pbErr p = 0 := by
 unfold pbErr
 rw [if_neg (not_not_intro h1), if_neg h2, if_neg (not_not_intro h3), fe_ok p.fl.length 0 (fun i _ hi => h4 i (by omega)), if_neg (by simp), fe_ok p.sd.length 0 (fun i _ hi => h i (by omega))]
theorem lessR_trans {a b c : Pr} (h1 : lessR a b = true) (h2 : lessR b c = true) : lessR a c = true := by
 unfold lessR at *
 grind
theorem pr_asc {F : Int} {l : List Pr} (h : ∀ x, x < l.length → prErr F l x = 0) {i : Nat} : ∀ (d : Nat), i + d + 1 < l.length → lessR (gp l i) (gp l (i + d + 1)) = true := by
 have adj : ∀ j, j + 1 < l.length → lessR (gp l j) (gp l (j + 1)) = true := fun j hj => by
   have := h (j + 1) hj
   unfold prErr at this
   split at this
   · cases this
   · split at this
     · cases this
     · rename_i hv
       cases hh : lessR (gp l j) (gp l (j + 1)) with
       | true => rfl
       | false => exact absurd ⟨Nat.succ_pos _, hh⟩ hv
 intro d
 induction d with
 | zero => intro hi; exact adj i hi
 | succ d ih => intro hi; exact lessR_trans (ih (by omega)) (adj (i + d + 1) (by omega))
theorem pr_in {F : Int} {l : List Pr} {j : Nat} (h : prErr F l j = 0) : 0 ≤ (gp l j).i ∧ (gp l j).i < F ∧ 0 ≤ (gp l j).o ∧ (gp l j).o < F := by
 unfold prErr at h
 split at h
 · cases h
 · omega
theorem pr_first {F : Int} {l : List Pr} (h : ∀ x, x < l.length → prErr F l x = 0) {j : Nat} (hj : j < l.length) (he : gp l j = ⟨0, 0⟩) : gp l 0 = ⟨0, 0⟩ := by
 by_cases h0 : j = 0
 · subst h0; exact he
 · have h1 := pr_asc h (i := 0) (j - 1) (by omega)
   rw [show 0 + (j - 1) + 1 = j by omega, he] at h1
   have h2 := pr_in (h 0 (by omega))
   unfold lessR at h1
   dsimp only at h1
   split at h1
   · have := of_decide_eq_true h1; omega
   · have := of_decide_eq_true h1; omega
structure Ok (p : Pb) : Prop where
 sup : superErr p.ns p.es p.mn = 0
 f1 : 1 ≤ p.F
 f2 : p.F ≤ 1024
 len : p.fl.length = p.es.length
 fl : ∀ k, k < p.fl.length → (gf p.fl k).length ≤ 8192 ∧ (∀ j, j < (gf p.fl k).length → prErr p.F (gf p.fl k) j = 0) ∧ 0 < (gf p.fl k).length ∧ gp (gf p.fl k) 0 = ⟨0, 0⟩
 sd : ∀ j, j < p.sd.length → sdErr p.ns.length p.F p.sd j = 0
theorem ok_of {p : Pb} (h : pbErr p = 0) : Ok p := by
 unfold pbErr at h
 by_cases h1 : superErr p.ns p.es p.mn = 0
 case neg => rw [if_pos h1] at h; exact absurd h h1
 rw [if_neg (not_not_intro h1)] at h
 by_cases h2 : p.F < 1 ∨ 1024 < p.F
 · rw [if_pos h2] at h; cases h
 rw [if_neg h2] at h
 by_cases h3 : p.fl.length = p.es.length
 case neg => rw [if_pos h3] at h; cases h
 rw [if_neg (not_not_intro h3)] at h
 by_cases h4 : fe (fun i => flErr p.F (gf p.fl i)) 0 p.fl.length = 0
 case neg => rw [if_pos h4] at h; exact absurd h h4
 rw [if_neg (not_not_intro h4)] at h
 refine ⟨h1, by omega, by omega, h3, fun k hk => ?_, fun j hj => fe_zero _ _ h j (Nat.zero_le _) (by omega)⟩
 have h5 := fe_zero _ _ h4 k (Nat.zero_le _) (by omega)
 unfold flErr at h5
 rw [if_neg h2] at h5
 split at h5
 · cases h5
 · split at h5
   · rename_i h9; exact absurd h5 h9
   · rename_i h9
     split at h5
     · cases h5
     · rename_i h8
       exact ⟨by omega, fun j hj => fe_zero _ _ (Decidable.byContradiction h9) j (Nat.zero_le _) (by omega), by omega, Decidable.byContradiction fun h7 => h8 (.inr h7)⟩
theorem Ok.pair {p : Pb} (h : Ok p) {k : Nat} (hk : k < p.fl.length) {q : Pr} (hq : q ∈ gf p.fl k) : 0 ≤ q.i ∧ q.i < p.F ∧ 0 ≤ q.o ∧ q.o < p.F := by
 obtain ⟨j, hj, rfl⟩ := mem_gp hq
 exact pr_in ((h.fl k hk).2.1 j hj)
theorem Ok.seed {p : Pb} (h : Ok p) {s : Sd} (hs : s ∈ p.sd) : 0 ≤ s.n ∧ s.n < p.ns.length ∧ 1 ≤ s.f ∧ s.f < p.F := by
 obtain ⟨j, hj, rfl⟩ := mem_gd hs
 have := h.sd j hj
 unfold sdErr at this
 split at this
 · cases this
 · omega
theorem sup_parts {ns : List Nd} {es : List Ed} {m : Int} (h : superErr ns es m = 0) : ns.length ≤ 8192 ∧ es.length ≤ 32768 ∧ nodesErr ns m = 0 ∧ ∀ k, k < es.length → edgeErr ns es k = 0 := by
 unfold superErr at h
 split at h
 · cases h
 · split at h
   · rename_i h0; exact absurd h h0
   · rename_i h0
     exact ⟨by omega, by omega, Decidable.byContradiction h0, fun k hk => fe_zero _ _ h k (Nat.zero_le _) (by omega)⟩
theorem sup_edge {ns : List Nd} {es : List Ed} {m : Int} (h : superErr ns es m = 0) {k : Nat} (hk : k < es.length) :
   0 ≤ (ge es k).a ∧ (ge es k).a < ns.length ∧ 0 ≤ (ge es k).b ∧ (ge es k).b < ns.length ∧ 1 ≤ (ge es k).k ∧ (ge es k).k ≤ 5 ∧ ((ge es k).k ≠ 1 → (ge es k).k ≠ 5 → 0 ≤ (ge es k).c ∧ (ge es k).c < ns.length) ∧ fitsB ns es (ge es k) = true := by
 have := (sup_parts h).2.2.2 k hk
 unfold edgeErr at this
 split at this
 · cases this
 · split at this
   · cases this
   · split at this
     · cases this
     · split at this
       · cases this
       · split at this
         · cases this
         · rename_i h9
           refine ⟨by omega, by omega, by omega, by omega, by omega, by omega, fun h1 h2 => by omega, by simpa using h9⟩
inductive PE (p : Pb) : Nat → Nat → Nat → Prop
 | main : PE p 0 p.mn.toNat 0
 | seed {s : Sd} : PE p 0 s.n.toNat 0 → s ∈ p.sd → PE p 0 s.n.toNat s.f.toNat
 | flow {a k : Nat} {q : Pr} : k < p.es.length → ((ge p.es k).k = 1 ∨ (ge p.es k).k = 5) → q ∈ gf p.fl k → PE p a (ge p.es k).a.toNat q.i.toNat → PE p a (ge p.es k).b.toNat q.o.toNat
 | call {a k : Nat} {q : Pr} : k < p.es.length → (ge p.es k).k = 2 → q ∈ gf p.fl k → PE p a (ge p.es k).a.toNat q.i.toNat → PE p q.o.toNat (ge p.es k).b.toNat q.o.toNat
 | ret {a c r : Nat} {q s : Pr} : c < p.es.length → (ge p.es c).k = 2 → q ∈ gf p.fl c → r < p.es.length → ((ge p.es r).k = 3 ∨ (ge p.es r).k = 4) → s ∈ gf p.fl r → (ge p.es c).a = (ge p.es r).c →
     (gn p.ns (ge p.es c).b.toNat).f = (gn p.ns (ge p.es r).a.toNat).f → PE p a (ge p.es c).a.toNat q.i.toNat → PE p q.o.toNat (ge p.es r).a.toNat s.i.toNat → PE p a (ge p.es r).b.toNat s.o.toNat
theorem main_in {ns : List Nd} {m : Int} (h : nodesErr ns m = 0) : 0 ≤ m ∧ m < ns.length ∧ (gn ns m.toNat).k = 1 := by
 unfold nodesErr at h
 split at h
 · rename_i h0; exact absurd h h0
 · split at h
   · rename_i h0; exact absurd h h0
   · unfold mainErr at h
     split at h
     · cases h
     · omega
theorem PE.rng {p : Pb} (h : Ok p) {a n d : Nat} (hp : PE p a n d) : n < p.ns.length ∧ (a : Int) < p.F ∧ (d : Int) < p.F := by
 have f1 := h.f1
 have hm := main_in (sup_parts h.sup).2.2.1
 induction hp with
 | main => exact ⟨by omega, by omega, by omega⟩
 | seed _ hs ih => have := h.seed hs; exact ⟨by omega, by omega, by omega⟩
 | flow hk _ hq _ ih => have := h.pair (by rw [h.len]; exact hk) hq; have := sup_edge h.sup hk; exact ⟨by omega, by omega, by omega⟩
 | call hk _ hq _ ih => have := h.pair (by rw [h.len]; exact hk) hq; have := sup_edge h.sup hk; exact ⟨by omega, by omega, by omega⟩
 | ret hc _ _ hr _ hs _ _ _ _ ih1 ih2 => have := h.pair (by rw [h.len]; exact hr) hs; have := sup_edge h.sup hr; exact ⟨by omega, by omega, by omega⟩
end If
end Go.Df
