/- Texts: Ba. -/
import Derived.IntWalk
namespace Go.Proofs.YtincpmdldpakkaaGreatDoor.Xf
open Go.RowKit
structure X where
 k : Int
 b : Int
 c : Int
structure V where
 k : Int
 n : Int
instance : DecidableEq X:=fun x y =>
 if h : x.k = y.k ∧ x.b = y.b ∧ x.c = y.c then isTrue (by cases x;cases y;simp_all) else isFalse (by rintro rfl;exact h ⟨rfl,rfl,rfl⟩)
instance : DecidableEq V:=fun v w =>
 if h : v.k = w.k ∧ v.n = w.n then isTrue (by cases v;cases w;simp_all) else isFalse (by rintro rfl;exact h ⟨rfl,rfl⟩)
def check (x : X) : Int :=
 if x.k = 3 then 0 else if x.k = 0 ∨ x.k = 4 then (if x.c ≠ 0 then 1 else if x.b ≠ 0 then 1 else 0)
 else if x.k = 1 then (if x.b ≠ 0 then 1 else 0) else if x.k = 2 then (if x.c ≠ 0 then 1 else 0) else 12
def rcheck (x : X) : Int :=
 if x.k < 0 ∨ x.k > 4 then 12 else
 if (x.b ≠ 0 ∧ x.k ≠ 2 ∧ x.k ≠ 3) ∨ (x.c ≠ 0 ∧ x.k ≠ 1 ∧ x.k ≠ 3) then 1 else 0
def checkV (v : V) : Int:=if v.k = 0 ∨ v.k = 2 then (if v.n ≠ 0 then 1 else 0) else if v.k = 1 then 0 else 12
def rcheckV (v : V) : Int:=if v.k < 0 ∨ v.k > 2 then 12 else if v.n ≠ 0 ∧ v.k ≠ 1 then 1 else 0
def sum (v : V) (b : Int) : V:=if v.k = 1 then ⟨1,wrap64 (v.n + b)⟩ else v
def meetV (v w : V) : V:=if v = w ∨ w.k = 0 then v else if v.k = 0 then w else ⟨2,0⟩
def rmeetV (v w : V) : V:=if v.k = 0 then w else if w.k = 0 ∨ v = w then v else ⟨2,0⟩
def apply (x : X) (v : V) : V :=
 if v.k = 0 then ⟨0,0⟩ else if x.k = 0 then ⟨0,0⟩ else if x.k = 1 then ⟨1,x.c⟩ else if x.k = 2 then sum v x.b
 else if x.k = 3 then meetV (sum v x.b) ⟨1,x.c⟩ else ⟨2,0⟩
def rapply (x : X) (v : V) : V :=
 if v.k = 0 then v else if x.k = 0 then ⟨0,0⟩ else if x.k = 1 then ⟨1,x.c⟩ else if x.k = 2 then sum v x.b
 else if x.k = 3 then rmeetV (sum v x.b) ⟨1,x.c⟩ else ⟨2,0⟩
def shifted (x : X) (n : Int) : X :=
 if x.k = 1 then ⟨1,0,wrap64 (x.c + n)⟩ else if x.k = 2 then ⟨2,wrap64 (x.b + n),0⟩
 else if x.k = 3 then ⟨3,wrap64 (x.b + n),wrap64 (x.c + n)⟩ else ⟨4,0,0⟩
def compose (x y : X) : X :=
 if x.k = 0 ∨ y.k = 0 then ⟨0,0,0⟩ else if y.k = 1 then y else if y.k = 2 then shifted x y.b
 else if y.k = 3 then
   (let f:=shifted x y.b
    if f.k = 2 then ⟨3,f.b,y.c⟩ else if f.k = 1 ∨ f.k = 3 then (if f.c = y.c then f else ⟨4,0,0⟩) else ⟨4,0,0⟩)
 else ⟨4,0,0⟩
def rcompose (x y : X) : X :=
 if x.k = 0 ∨ y.k = 0 then ⟨0,0,0⟩ else if y.k = 1 ∨ y.k = 4 then y else if x.k = 4 then x
 else if x.k = 1 then (let v:=rapply y ⟨1,x.c⟩;if v.k = 1 then ⟨1,0,v.n⟩ else ⟨4,0,0⟩)
 else if x.k = 2 then ⟨y.k,wrap64 (x.b + y.b),y.c⟩
 else (let v:=rapply y ⟨1,x.c⟩;if v.k = 1 then ⟨3,wrap64 (x.b + y.b),v.n⟩ else ⟨4,0,0⟩)
def meet (x y : X) : X :=
 if x = y ∨ y.k = 0 then x else if x.k = 0 then y else if x.k = 4 ∨ y.k = 4 then ⟨4,0,0⟩
 else if x.k ≠ 1 ∧ y.k ≠ 1 ∧ y.b ≠ x.b then ⟨4,0,0⟩
 else if x.k ≠ 2 ∧ y.k ≠ 2 ∧ y.c ≠ x.c then ⟨4,0,0⟩
 else ⟨3,if y.k ≠ 1 then y.b else if x.k ≠ 1 then x.b else 0,if y.k ≠ 2 then y.c else if x.k ≠ 2 then x.c else 0⟩
def rmeet1 (x y : X) : X :=
 if x.k = 1 ∧ y.k = 2 then ⟨3,y.b,x.c⟩ else if x.k = 1 ∧ y.k = 3 ∧ x.c = y.c then y
 else if x.k = 2 ∧ y.k = 3 ∧ x.b = y.b then y else ⟨4,0,0⟩
def rmeet (x y : X) : X :=
 if x.k = 0 then y else if y.k = 0 ∨ x = y then x else if x.k > y.k then rmeet1 y x else rmeet1 x y
def below (v w : V) : Bool:=w.k = 0 ∨ v.k = 2 ∨ v = w
def rbelow (v w : V) : Bool:=v = w ∨ v.k = 2 ∨ w.k = 0
def steps (x : X) : Int:=if x.k = 0 then 3 else if x.k = 1 ∨ x.k = 2 then 2 else if x.k = 3 then 1 else 0
theorem valid_cases {x : X} (h : rcheck x = 0) : x = ⟨0,0,0⟩ ∨ (∃ c,x = ⟨1,0,c⟩) ∨ (∃ b,x = ⟨2,b,0⟩) ∨ (∃ b c,x = ⟨3,b,c⟩) ∨ x = ⟨4,0,0⟩:=by
 obtain ⟨k,b,c⟩:=x
 simp only [rcheck] at h
 split at h
 · omega
 · split at h
   · omega
   · rename_i h1 h2
     simp only [not_or,not_and,Int.not_lt] at h1 h2
     obtain ⟨h1a,h1b⟩:=h1
     have hk : k = 0 ∨ k = 1 ∨ k = 2 ∨ k = 3 ∨ k = 4:=by omega
     rcases hk with rfl | rfl | rfl | rfl | rfl <;> simp_all
theorem validV_cases {v : V} (h : rcheckV v = 0) : v = ⟨0,0⟩ ∨ (∃ n,v = ⟨1,n⟩) ∨ v = ⟨2,0⟩:=by
 obtain ⟨k,n⟩:=v
 simp only [rcheckV] at h
 split at h
 · omega
 · split at h
   · omega
   · rename_i h1 h2
     simp only [not_or,not_and,Int.not_lt] at h1 h2
     obtain ⟨h1a,h1b⟩:=h1
     have hk : k = 0 ∨ k = 1 ∨ k = 2:=by omega
     rcases hk with rfl | rfl | rfl <;> simp_all
theorem wrap_add (a b : Int) : wrap64 (wrap64 a + b) = wrap64 (a + b):=by unfold wrap64;omega
theorem wrap_add' (a b : Int) : wrap64 (a + wrap64 b) = wrap64 (a + b):=by unfold wrap64;omega
theorem wrap_inj {a b n : Int} (ha : wrap64 a = a) (hb : wrap64 b = b) : wrap64 (a + n) = wrap64 (b + n) ↔ a = b:=by
 unfold wrap64 at *
 constructor <;> intro h <;> omega
theorem meetV_eq {v w : V} (hv : rcheckV v = 0) (hw : rcheckV w = 0) : rmeetV v w = meetV v w:=by
 rcases validV_cases hv with rfl | ⟨n,rfl⟩ | rfl <;> rcases validV_cases hw with rfl | ⟨m,rfl⟩ | rfl <;> simp [rmeetV,meetV]
theorem apply_eq {x : X} {v : V} (hx : rcheck x = 0) (hv : rcheckV v = 0) : rapply x v = apply x v:=by
 rcases valid_cases hx with rfl | ⟨c,rfl⟩ | ⟨b,rfl⟩ | ⟨b,c,rfl⟩ | rfl <;> rcases validV_cases hv with rfl | ⟨n,rfl⟩ | rfl <;> simp [rapply,apply,sum,rmeetV,meetV]
/- The lattice laws, on valid transformers whose numbers fit. -/
def fits (x : X) : Prop:=wrap64 x.b = x.b ∧ wrap64 x.c = x.c
theorem check_compose {x y : X} (hx : rcheck x = 0) (hy : rcheck y = 0) : rcheck (compose x y) = 0:=by
 rcases valid_cases hx with rfl | ⟨c,rfl⟩ | ⟨b,rfl⟩ | ⟨b,c,rfl⟩ | rfl <;> rcases valid_cases hy with rfl | ⟨c',rfl⟩ | ⟨b',rfl⟩ | ⟨b',c',rfl⟩ | rfl <;>
   simp [compose,shifted]
 all_goals (repeat' split) <;> simp [rcheck]
theorem check_meet {x y : X} (hx : rcheck x = 0) (hy : rcheck y = 0) : rcheck (meet x y) = 0:=by
 rcases valid_cases hx with rfl | ⟨c,rfl⟩ | ⟨b,rfl⟩ | ⟨b,c,rfl⟩ | rfl <;> rcases valid_cases hy with rfl | ⟨c',rfl⟩ | ⟨b',rfl⟩ | ⟨b',c',rfl⟩ | rfl <;>
   simp [meet]
 all_goals (repeat' split) <;> simp [rcheck]
def add64 (a b : Int) : Int:=wrap64 (a + b)
theorem add64_def (a b : Int) : wrap64 (a + b) = add64 a b:=rfl
theorem add64_assoc (a b c : Int) : add64 (add64 a b) c = add64 a (add64 b c):=by unfold add64;rw [wrap_add,wrap_add',Int.add_assoc]
theorem add64_shift {a m n c : Int} (h : wrap64 c = c) : add64 a (add64 m n) = add64 c n ↔ add64 a m = c:=by
 unfold add64
 rw [wrap_add']
 unfold wrap64 at *
 constructor <;> intro h' <;> omega
theorem add64_left {n a c : Int} (h : wrap64 a = a) (k : wrap64 c = c) : add64 n a = add64 n c ↔ a = c:=by
 unfold add64 wrap64 at *
 constructor <;> intro h' <;> omega
set_option maxHeartbeats 2000000 in
theorem meet_assoc {x y z : X} (hx : rcheck x = 0) (hy : rcheck y = 0) (hz : rcheck z = 0) : meet (meet x y) z = meet x (meet y z):=by
 have W2 : ∀ a m n c,wrap64 c = c → (add64 a (add64 m n) = add64 c n ↔ add64 a m = c):=fun a m n c h => add64_shift h
 have W1 : ∀ a n c,wrap64 a = a → wrap64 c = c → (add64 a n = add64 c n ↔ a = c):=fun a n c h k => wrap_inj h k
 have W3 : ∀ a m n,add64 (add64 a m) n = add64 a (add64 m n):=add64_assoc
 rcases valid_cases hx with rfl | ⟨c,rfl⟩ | ⟨b,rfl⟩ | ⟨b,c,rfl⟩ | rfl <;> rcases valid_cases hy with rfl | ⟨c',rfl⟩ | ⟨b',rfl⟩ | ⟨b',c',rfl⟩ | rfl <;> rcases valid_cases hz with rfl | ⟨c2,rfl⟩ | ⟨b2,rfl⟩ | ⟨b2,c2,rfl⟩ | rfl <;>
   simp [meet]
 all_goals grind
set_option maxHeartbeats 2000000 in
theorem compose_meet {x y z : X} (hx : rcheck x = 0) (hy : rcheck y = 0) (hz : rcheck z = 0) (fy : fits y) (fz : fits z) : compose x (meet y z) = meet (compose x y) (compose x z):=by
 have W2 : ∀ a m n c,wrap64 c = c → (add64 a (add64 m n) = add64 c n ↔ add64 a m = c):=fun a m n c h => add64_shift h
 have W1 : ∀ a n c,wrap64 a = a → wrap64 c = c → (add64 a n = add64 c n ↔ a = c):=fun a n c h k => wrap_inj h k
 have W4 : ∀ n a c,wrap64 a = a → wrap64 c = c → (add64 n a = add64 n c ↔ a = c):=fun n a c h k => add64_left h k
 have W3 : ∀ a m n,add64 (add64 a m) n = add64 a (add64 m n):=add64_assoc
 rcases valid_cases hx with rfl | ⟨c,rfl⟩ | ⟨b,rfl⟩ | ⟨b,c,rfl⟩ | rfl <;> rcases valid_cases hy with rfl | ⟨c',rfl⟩ | ⟨b',rfl⟩ | ⟨b',c',rfl⟩ | rfl <;> rcases valid_cases hz with rfl | ⟨c2,rfl⟩ | ⟨b2,rfl⟩ | ⟨b2,c2,rfl⟩ | rfl <;>
   simp [compose,shifted,meet,add64_def]
 all_goals simp only [fits] at *
 all_goals grind
set_option maxHeartbeats 2000000 in
theorem meet_compose {x y z : X} (hx : rcheck x = 0) (hy : rcheck y = 0) (hz : rcheck z = 0) (fx : fits x) (fy : fits y) : compose (meet x y) z = meet (compose x z) (compose y z):=by
 have W2 : ∀ a m n c,wrap64 c = c → (add64 a (add64 m n) = add64 c n ↔ add64 a m = c):=fun a m n c h => add64_shift h
 have W1 : ∀ a n c,wrap64 a = a → wrap64 c = c → (add64 a n = add64 c n ↔ a = c):=fun a n c h k => wrap_inj h k
 have W3 : ∀ a m n,add64 (add64 a m) n = add64 a (add64 m n):=add64_assoc
 rcases valid_cases hx with rfl | ⟨c,rfl⟩ | ⟨b,rfl⟩ | ⟨b,c,rfl⟩ | rfl <;> rcases valid_cases hy with rfl | ⟨c',rfl⟩ | ⟨b',rfl⟩ | ⟨b',c',rfl⟩ | rfl <;> rcases valid_cases hz with rfl | ⟨c2,rfl⟩ | ⟨b2,rfl⟩ | ⟨b2,c2,rfl⟩ | rfl <;>
   simp [compose,shifted,meet,add64_def]
 all_goals simp only [fits] at *
 all_goals grind
theorem meet_comm {x y : X} (hx : rcheck x = 0) (hy : rcheck y = 0) : meet x y = meet y x:=by
 rcases valid_cases hx with rfl | ⟨c,rfl⟩ | ⟨b,rfl⟩ | ⟨b,c,rfl⟩ | rfl <;> rcases valid_cases hy with rfl | ⟨c',rfl⟩ | ⟨b',rfl⟩ | ⟨b',c',rfl⟩ | rfl <;> simp [meet]
 all_goals grind
theorem meet_self (x : X) : meet x x = x:=by simp [meet]
theorem meet_top (x : X) : meet x ⟨0,0,0⟩ = x:=by simp [meet]
theorem steps_meet {x y : X} (hx : rcheck x = 0) (hy : rcheck y = 0) : meet x y = x ∨ steps (meet x y) < steps x:=by
 rcases valid_cases hx with rfl | ⟨c,rfl⟩ | ⟨b,rfl⟩ | ⟨b,c,rfl⟩ | rfl <;> rcases valid_cases hy with rfl | ⟨c',rfl⟩ | ⟨b',rfl⟩ | ⟨b',c',rfl⟩ | rfl <;> simp [meet]
 all_goals grind [steps]
theorem steps_nonneg (x : X) : 0 ≤ steps x := by unfold steps; repeat' split
                                                 all_goals omega
set_option maxHeartbeats 1000000 in
theorem apply_compose {x y : X} {v : V} (hx : rcheck x = 0) (hy : rcheck y = 0) (hv : rcheckV v = 0) (fx : fits x) : apply (compose x y) v = apply y (apply x v):=by
 have W2 : ∀ a m n c,wrap64 c = c → (add64 a (add64 m n) = add64 c n ↔ add64 a m = c):=fun a m n c h => add64_shift h
 have W3 : ∀ a m n,add64 (add64 a m) n = add64 a (add64 m n):=add64_assoc
 rcases valid_cases hx with rfl | ⟨c,rfl⟩ | ⟨b,rfl⟩ | ⟨b,c,rfl⟩ | rfl <;> rcases valid_cases hy with rfl | ⟨c',rfl⟩ | ⟨b',rfl⟩ | ⟨b',c',rfl⟩ | rfl <;> rcases validV_cases hv with rfl | ⟨n,rfl⟩ | rfl <;> simp [compose,shifted,apply,sum,meetV,add64_def,add64_assoc]
 all_goals simp only [fits] at *
 all_goals grind
set_option maxHeartbeats 1000000 in
theorem apply_meet {x y : X} {v : V} (hx : rcheck x = 0) (hy : rcheck y = 0) (hv : rcheckV v = 0) (fx : fits x) (fy : fits y) : apply (meet x y) v = meetV (apply x v) (apply y v):=by
 have W4 : ∀ n a c,wrap64 a = a → wrap64 c = c → (add64 n a = add64 n c ↔ a = c):=fun n a c h k => add64_left h k
 rcases valid_cases hx with rfl | ⟨c,rfl⟩ | ⟨b,rfl⟩ | ⟨b,c,rfl⟩ | rfl <;> rcases valid_cases hy with rfl | ⟨c',rfl⟩ | ⟨b',rfl⟩ | ⟨b',c',rfl⟩ | rfl <;> rcases validV_cases hv with rfl | ⟨n,rfl⟩ | rfl <;> simp [meet,apply,sum,meetV,add64_def]
 all_goals simp only [fits] at *
 all_goals grind
set_option maxHeartbeats 1000000 in
theorem apply_meetV {x : X} {v w : V} (hx : rcheck x = 0) (hv : rcheckV v = 0) (hw : rcheckV w = 0) (fv : wrap64 v.n = v.n) (fw : wrap64 w.n = w.n) : apply x (meetV v w) = meetV (apply x v) (apply x w):=by
 have W1 : ∀ a n c,wrap64 a = a → wrap64 c = c → (add64 a n = add64 c n ↔ a = c):=fun a n c h k => wrap_inj h k
 rcases valid_cases hx with rfl | ⟨c,rfl⟩ | ⟨b,rfl⟩ | ⟨b,c,rfl⟩ | rfl <;> rcases validV_cases hv with rfl | ⟨n,rfl⟩ | rfl <;> rcases validV_cases hw with rfl | ⟨m,rfl⟩ | rfl <;> simp [apply,sum,meetV,add64_def]
 all_goals grind
theorem check_apply {x : X} {v : V} (hx : rcheck x = 0) (hv : rcheckV v = 0) : rcheckV (apply x v) = 0:=by
 rcases valid_cases hx with rfl | ⟨c,rfl⟩ | ⟨b,rfl⟩ | ⟨b,c,rfl⟩ | rfl <;> rcases validV_cases hv with rfl | ⟨n,rfl⟩ | rfl <;> simp [apply,sum,meetV]
 all_goals (repeat' split) <;> simp [rcheckV]
end Go.Proofs.YtincpmdldpakkaaGreatDoor.Xf
