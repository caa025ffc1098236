/- Texts: Be Ia Ib Ic Bf Ue. -/
import Derived.Test.YtincpmdldpakkaaGreatDoorMt01
import Derived.Test.YtincpmdldpakkaaGreatDoorMt05
import Derived.Test.YtincpmdldpakkaaGreatDoorMt07
namespace Go.Df
namespace Iv
open Go.RowKit Go.Proofs.YtincpmdldpakkaaGreatDoor
theorem wrap_wrap (a : Int) : wrap64 (wrap64 a) = wrap64 a:=by unfold wrap64;omega
theorem wrap_zero : wrap64 0 = 0:=by unfold wrap64;omega
theorem fits_shifted (x : Xf.X) (n : Int) : Xf.fits (Xf.shifted x n):=by
 unfold Xf.shifted Xf.fits
 (repeat' split) <;> simp [wrap_wrap,wrap_zero]
theorem fits_compose {x y : Xf.X} (hy : Xf.fits y) : Xf.fits (Xf.compose x y):=by
 have hs:=fits_shifted x y.b
 unfold Xf.compose
 dsimp only
 (repeat' split) <;> first | exact hs | exact hy | exact ⟨wrap_zero,wrap_zero⟩ | exact ⟨hs.1,hy.2⟩
theorem fits_meet {x y : Xf.X} (hx : Xf.fits x) (hy : Xf.fits y) : Xf.fits (Xf.meet x y):=by
 unfold Xf.meet
 (repeat' split) <;> first | exact hx | exact hy | exact ⟨wrap_zero,wrap_zero⟩ | exact ⟨by (first | exact hx.1 | exact hy.1 | exact wrap_zero),by (first | exact hx.2 | exact hy.2 | exact wrap_zero)⟩
theorem fits_apply {x : Xf.X} {v : Xf.V} (hx : Xf.fits x) (hv : wrap64 v.n = v.n) : wrap64 (Xf.apply x v).n = (Xf.apply x v).n:=by
 unfold Xf.apply Xf.sum Xf.meetV
 (repeat' split) <;> first | exact hv | exact wrap_zero | exact hx.2 | exact wrap_wrap _ | (simp [wrap_wrap,wrap_zero,hx.2,hv];done)
theorem fits_meetV {v w : Xf.V} (hv : wrap64 v.n = v.n) (hw : wrap64 w.n = w.n) : wrap64 (Xf.meetV v w).n = (Xf.meetV v w).n:=by
 unfold Xf.meetV
 (repeat' split) <;> first | exact hv | exact hw | exact wrap_zero
def D : Type:={ x : Xf.X // Xf.rcheck x = 0 ∧ Xf.fits x }
def U : Type:={ v : Xf.V // Xf.rcheckV v = 0 ∧ wrap64 v.n = v.n }
instance : DecidableEq D:=fun x y => if h : x.1 = y.1 then isTrue (Subtype.ext h) else isFalse (fun e => h (congrArg Subtype.val e))
instance : DecidableEq U:=fun x y => if h : x.1 = y.1 then isTrue (Subtype.ext h) else isFalse (fun e => h (congrArg Subtype.val e))
def mkD (x : Xf.X) (h : Xf.rcheck x = 0 ∧ Xf.fits x) : D:=⟨x,h⟩
theorem mkD_val {x : Xf.X} (h : Xf.rcheck x = 0 ∧ Xf.fits x) : (mkD x h).1 = x:=rfl
theorem check_const (v : Int) : Xf.rcheck ⟨1,0,v⟩ = 0:=by unfold Xf.rcheck;simp
def top : D:=⟨⟨0,0,0⟩,by decide,wrap_zero,wrap_zero⟩
def shift : D:=⟨⟨2,0,0⟩,by decide,wrap_zero,wrap_zero⟩
def bot : D:=⟨⟨4,0,0⟩,by decide,wrap_zero,wrap_zero⟩
def meet (x y : D) : D:=⟨Xf.meet x.1 y.1,Xf.check_meet x.2.1 y.2.1,fits_meet x.2.2 y.2.2⟩
def comp (x y : D) : D:=⟨Xf.compose x.1 y.1,Xf.check_compose x.2.1 y.2.1,fits_compose y.2.2⟩
def topV : U:=⟨⟨0,0⟩,by decide,wrap_zero⟩
def botV : U:=⟨⟨2,0⟩,by decide,wrap_zero⟩
theorem check_meetV {v w : Xf.V} (hv : Xf.rcheckV v = 0) (hw : Xf.rcheckV w = 0) : Xf.rcheckV (Xf.meetV v w) = 0:=by
 unfold Xf.meetV
 (repeat' split) <;> first | exact hv | exact hw | decide
def meetV (v w : U) : U:=⟨Xf.meetV v.1 w.1,check_meetV v.2.1 w.2.1,fits_meetV v.2.2 w.2.2⟩
def app (x : D) (v : U) : U:=⟨Xf.apply x.1 v.1,Xf.check_apply x.2.1 v.2.1,fits_apply x.2.2 v.2.2⟩
theorem meet_self (x : D) : meet x x = x:=Subtype.ext (Xf.meet_self _)
theorem meet_comm (x y : D) : meet x y = meet y x:=Subtype.ext (Xf.meet_comm x.2.1 y.2.1)
theorem meet_assoc (x y z : D) : meet (meet x y) z = meet x (meet y z):=Subtype.ext (Xf.meet_assoc x.2.1 y.2.1 z.2.1)
theorem meet_top (x : D) : meet x top = x:=Subtype.ext (Xf.meet_top _)
theorem top_meet (x : D) : meet top x = x:=by rw [meet_comm,meet_top]
theorem comp_top (x : D) : comp x top = top:=Subtype.ext (by show Xf.compose x.1 ⟨0,0,0⟩ = ⟨0,0,0⟩;unfold Xf.compose;rw [if_pos (Or.inr rfl)])
theorem top_comp (x : D) : comp top x = top:=Subtype.ext (by show Xf.compose ⟨0,0,0⟩ x.1 = ⟨0,0,0⟩;unfold Xf.compose;rw [if_pos (Or.inl rfl)])
theorem comp_meet (x y z : D) : comp x (meet y z) = meet (comp x y) (comp x z):=Subtype.ext (Xf.compose_meet x.2.1 y.2.1 z.2.1 y.2.2 z.2.2)
theorem meet_comp (x y z : D) : comp (meet x y) z = meet (comp x z) (comp y z):=Subtype.ext (Xf.meet_compose x.2.1 y.2.1 z.2.1 x.2.2 y.2.2)
theorem app_comp (x y : D) (v : U) : app (comp x y) v = app y (app x v):=Subtype.ext (Xf.apply_compose x.2.1 y.2.1 v.2.1 x.2.2)
theorem app_meet (x y : D) (v : U) : app (meet x y) v = meetV (app x v) (app y v):=Subtype.ext (Xf.apply_meet x.2.1 y.2.1 v.2.1 x.2.2 y.2.2)
theorem app_meetV (x : D) (v w : U) : app x (meetV v w) = meetV (app x v) (app x w):=Subtype.ext (Xf.apply_meetV x.2.1 v.2.1 w.2.1 v.2.2 w.2.2)
theorem app_topV (x : D) : app x topV = topV:=Subtype.ext (by show Xf.apply x.1 ⟨0,0⟩ = ⟨0,0⟩;unfold Xf.apply;rw [if_pos rfl])
theorem top_app (v : U) : app top v = topV:=Subtype.ext (by show Xf.apply ⟨0,0,0⟩ v.1 = ⟨0,0⟩;unfold Xf.apply;split <;> first | rfl | (rw [if_pos rfl]))
theorem shift_app (v : U) : app shift v = v:=Subtype.ext (by
 show Xf.apply ⟨2,0,0⟩ v.1 = v.1
 have hf:=v.2.2
 rcases Xf.validV_cases v.2.1 with h | ⟨n,h⟩ | h <;> rw [h] at hf ⊢ <;> simp [Xf.apply,Xf.sum] <;> exact hf)
theorem meetV_self (v : U) : meetV v v = v:=Subtype.ext (by show Xf.meetV v.1 v.1 = v.1;unfold Xf.meetV;rw [if_pos (Or.inl rfl)])
theorem meetV_comm (v w : U) : meetV v w = meetV w v:=Subtype.ext (by
 show Xf.meetV v.1 w.1 = Xf.meetV w.1 v.1
 rcases Xf.validV_cases v.2.1 with h | ⟨n,h⟩ | h <;> rcases Xf.validV_cases w.2.1 with k | ⟨m,k⟩ | k <;> rw [h,k] <;> simp [Xf.meetV] <;> grind)
theorem meetV_assoc (u v w : U) : meetV (meetV u v) w = meetV u (meetV v w):=Subtype.ext (by
 show Xf.meetV (Xf.meetV u.1 v.1) w.1 = Xf.meetV u.1 (Xf.meetV v.1 w.1)
 rcases Xf.validV_cases u.2.1 with g | ⟨l,g⟩ | g <;> rcases Xf.validV_cases v.2.1 with h | ⟨n,h⟩ | h <;> rcases Xf.validV_cases w.2.1 with k | ⟨m,k⟩ | k <;> rw [g,h,k] <;> simp [Xf.meetV] <;> grind)
theorem meetV_top (v : U) : meetV v topV = v:=Subtype.ext (by show Xf.meetV v.1 ⟨0,0⟩ = v.1;unfold Xf.meetV;rw [if_pos (Or.inr rfl)])
theorem top_meetV (v : U) : meetV topV v = v:=by rw [meetV_comm,meetV_top]
def le (x y : D) : Prop:=meet y x = x
def leV (v w : U) : Prop:=meetV w v = v
theorem le_refl (x : D) : le x x:=meet_self x
theorem le_top (x : D) : le x top:=top_meet x
theorem le_trans {x y z : D} (h : le x y) (k : le y z) : le x z:=by
 unfold le at *
 rw [← h,← meet_assoc,k]
theorem le_antisymm {x y : D} (h : le x y) (k : le y x) : x = y:=by
 unfold le at *
 rw [← h,meet_comm,k]
theorem meet_le_left (x y : D) : le (meet x y) x:=by unfold le;rw [← meet_assoc,meet_self]
theorem meet_le_right (x y : D) : le (meet x y) y:=by rw [meet_comm];exact meet_le_left y x
theorem le_meet {x y z : D} (h : le z x) (k : le z y) : le z (meet x y):=by
 unfold le at *
 rw [meet_assoc,k,h]
theorem meet_eq_iff {x y : D} : meet x y = x ↔ le x y:=by unfold le;rw [meet_comm]
theorem comp_mono {x x' y y' : D} (h : le x x') (k : le y y') : le (comp x y) (comp x' y'):=by
 refine le_trans (y:=comp x' y) ?_ ?_
 · unfold le at *;rw [← meet_comp,h]
 · unfold le at *;rw [← comp_meet,k]
theorem leV_refl (x : U) : leV x x:=meetV_self x
theorem leV_top (x : U) : leV x topV:=top_meetV x
theorem leV_trans {x y z : U} (h : leV x y) (k : leV y z) : leV x z:=by
 unfold leV at *
 rw [← h,← meetV_assoc,k]
theorem leV_antisymm {x y : U} (h : leV x y) (k : leV y x) : x = y:=by
 unfold leV at *
 rw [← h,meetV_comm,k]
theorem meetV_le_left (x y : U) : leV (meetV x y) x:=by unfold leV;rw [← meetV_assoc,meetV_self]
theorem meetV_le_right (x y : U) : leV (meetV x y) y:=by rw [meetV_comm];exact meetV_le_left y x
theorem le_meetV {x y z : U} (h : leV z x) (k : leV z y) : leV z (meetV x y):=by
 unfold leV at *
 rw [meetV_assoc,k,h]
theorem meetV_eq_iff {x y : U} : meetV x y = x ↔ leV x y:=by unfold leV;rw [meetV_comm]
theorem app_mono {x x' : D} {v v' : U} (h : le x x') (k : leV v v') : leV (app x v) (app x' v'):=by
 refine leV_trans (y:=app x' v) ?_ ?_
 · unfold le leV at *;rw [← app_meet,h]
 · unfold leV at *;rw [← app_meetV,k]
def stp (x : D) : Nat:=(Xf.steps x.1).toNat
theorem stp_meet (x y : D) (h : meet x y ≠ x) : stp (meet x y) < stp x:=by
 have h1:=Xf.steps_nonneg (meet x y).1
 rcases Xf.steps_meet x.2.1 y.2.1 with h2 | h2
 · exact absurd (Subtype.ext h2) h
 · have h3 : Xf.steps (meet x y).1 < Xf.steps x.1:=h2
   unfold stp
   omega
theorem stp_mono {x y : D} (h : le x y) : stp x ≤ stp y:=by
 by_cases e : x = y
 · rw [e];exact Nat.le_refl _
 · have h1 : meet y x ≠ y:=by rw [h];exact e
   have h2:=stp_meet y x h1
   rw [h] at h2
   omega
def stpV (v : U) : Nat:=if v.1.k = 0 then 2 else if v.1.k = 1 then 1 else 0
theorem stpV_key : ∀ (x y : Xf.V),(x = ⟨0,0⟩ ∨ (∃ n,x = ⟨1,n⟩) ∨ x = ⟨2,0⟩) → (y = ⟨0,0⟩ ∨ (∃ n,y = ⟨1,n⟩) ∨ y = ⟨2,0⟩) → Xf.meetV x y ≠ x →
   (if (Xf.meetV x y).k = 0 then 2 else if (Xf.meetV x y).k = 1 then 1 else 0) < (if x.k = 0 then 2 else if x.k = 1 then 1 else 0 : Nat):=by
 rintro x y (rfl | ⟨n,rfl⟩ | rfl) (rfl | ⟨m,rfl⟩ | rfl) h <;> simp [Xf.meetV] at h ⊢
 all_goals first | (rw [if_neg h];simp;done) | (exfalso;exact h rfl) | skip
theorem stpV_meet (v w : U) (h : meetV v w ≠ v) : stpV (meetV v w) < stpV v :=
 stpV_key v.1 w.1 (Xf.validV_cases v.2.1) (Xf.validV_cases w.2.1) (fun e => h (Subtype.ext e))
theorem kind_top {x : D} : x.1.k = 0 ↔ x = top:=by
 constructor
 · intro h
   refine Subtype.ext ?_
   rcases Xf.valid_cases x.2.1 with e | ⟨c,e⟩ | ⟨b,e⟩ | ⟨b,c,e⟩ | e <;> rw [e] at h ⊢ <;> first | rfl | (simp at h)
 · intro h;rw [h];rfl
theorem kind_topV {v : U} : v.1.k = 0 ↔ v = topV:=by
 constructor
 · intro h
   refine Subtype.ext ?_
   rcases Xf.validV_cases v.2.1 with e | ⟨c,e⟩ | e <;> rw [e] at h ⊢ <;> first | rfl | (simp at h)
 · intro h;rw [h];rfl
end Iv
end Go.Df
namespace Go.Df
open Go.RowKit
namespace If
open Sp
structure Pr where
 i : Int
 o : Int
deriving DecidableEq
structure Sd where
 n : Int
 f : Int
deriving DecidableEq
def gp (l : List Pr) (i : Nat) : Pr:=l.getD i ⟨0,0⟩
def gd (l : List Sd) (i : Nat) : Sd:=l.getD i ⟨0,0⟩
def gf (ls : List (List Pr)) (i : Nat) : List Pr:=ls.getD i []
theorem gp_lt {l : List Pr} {i : Nat} (h : i < l.length) : gp l i = l[i]:=by simp [gp,h]
theorem gp_mem {l : List Pr} {i : Nat} (h : i < l.length) : gp l i ∈ l:=by rw [gp_lt h];exact List.getElem_mem h
def lessR (a b : Pr) : Bool:=if a.i ≠ b.i then decide (a.i < b.i) else decide (a.o < b.o)
def lessD (a b : Sd) : Bool:=if a.n ≠ b.n then decide (a.n < b.n) else decide (a.f < b.f)
def prErr (F : Int) (l : List Pr) (j : Nat) : Int :=
 if (gp l j).i < 0 ∨ F ≤ (gp l j).i ∨ (gp l j).o < 0 ∨ F ≤ (gp l j).o then 4 else if 0 < j ∧ lessR (gp l (j - 1)) (gp l j) = false then 13 else 0
def flErr (F : Int) (l : List Pr) : Int :=
 if F < 1 ∨ 1024 < F then 4 else if 8192 < l.length then 3 else if fe (prErr F l) 0 l.length ≠ 0 then fe (prErr F l) 0 l.length else if l.length = 0 ∨ gp l 0 ≠ ⟨0,0⟩ then 1 else 0
def sdErr (N : Nat) (F : Int) (l : List Sd) (j : Nat) : Int :=
 if (gd l j).n < 0 ∨ (N : Int) ≤ (gd l j).n ∨ (gd l j).f < 1 ∨ F ≤ (gd l j).f then 4 else if 0 < j ∧ lessD (gd l (j - 1)) (gd l j) = false then 13 else 0
structure Pb where
 ns : List Nd
 es : List Ed
 mn : Int
 F : Int
 fl : List (List Pr)
 sd : List Sd
def pbErr (p : Pb) : Int :=
 if superErr p.ns p.es p.mn ≠ 0 then superErr p.ns p.es p.mn else if p.F < 1 ∨ 1024 < p.F then 4 else if p.fl.length ≠ p.es.length then 20
 else if fe (fun i => flErr p.F (gf p.fl i)) 0 p.fl.length ≠ 0 then fe (fun i => flErr p.F (gf p.fl i)) 0 p.fl.length else fe (sdErr p.ns.length p.F p.sd) 0 p.sd.length
structure Ok (p : Pb) : Prop where
 sup : superErr p.ns p.es p.mn = 0
 f1 : 1 ≤ p.F
 f2 : p.F ≤ 1024
 len : p.fl.length = p.es.length
 fl : ∀ k,k < p.fl.length → (gf p.fl k).length ≤ 8192 ∧ (∀ j,j < (gf p.fl k).length → prErr p.F (gf p.fl k) j = 0) ∧ 0 < (gf p.fl k).length ∧ gp (gf p.fl k) 0 = ⟨0,0⟩
 sd : ∀ j,j < p.sd.length → sdErr p.ns.length p.F p.sd j = 0
theorem sup_parts {ns : List Nd} {es : List Ed} {m : Int} (h : superErr ns es m = 0) : ns.length ≤ 8192 ∧ es.length ≤ 32768 ∧ nodesErr ns m = 0 ∧ ∀ k,k < es.length → edgeErr ns es k = 0:=by
 unfold superErr at h
 split at h
 · cases h
 · split at h
   · rename_i h0;exact absurd h h0
   · rename_i h0
     exact ⟨by omega,by omega,Decidable.byContradiction h0,fun k hk => fe_zero _ _ h k (Nat.zero_le _) (by omega)⟩
theorem sup_edge {ns : List Nd} {es : List Ed} {m : Int} (h : superErr ns es m = 0) {k : Nat} (hk : k < es.length) :
   0 ≤ (ge es k).a ∧ (ge es k).a < ns.length ∧ 0 ≤ (ge es k).b ∧ (ge es k).b < ns.length ∧ 1 ≤ (ge es k).k ∧ (ge es k).k ≤ 5 ∧ ((ge es k).k ≠ 1 → (ge es k).k ≠ 5 → 0 ≤ (ge es k).c ∧ (ge es k).c < ns.length) ∧ fitsB ns es (ge es k) = true:=by
 have:=(sup_parts h).2.2.2 k hk
 unfold edgeErr at this
 split at this
 · cases this
 · split at this
   · cases this
   · split at this
     · cases this
     · split at this
       · cases this
       · split at this
         · cases this
         · rename_i h9
           refine ⟨by omega,by omega,by omega,by omega,by omega,by omega,fun h1 h2 => by omega,by simpa using h9⟩
inductive PE (p : Pb) : Nat → Nat → Nat → Prop
 | main : PE p 0 p.mn.toNat 0
 | seed {s : Sd} : PE p 0 s.n.toNat 0 → s ∈ p.sd → PE p 0 s.n.toNat s.f.toNat
 | flow {a k : Nat} {q : Pr} : k < p.es.length → ((ge p.es k).k = 1 ∨ (ge p.es k).k = 5) → q ∈ gf p.fl k → PE p a (ge p.es k).a.toNat q.i.toNat → PE p a (ge p.es k).b.toNat q.o.toNat
 | call {a k : Nat} {q : Pr} : k < p.es.length → (ge p.es k).k = 2 → q ∈ gf p.fl k → PE p a (ge p.es k).a.toNat q.i.toNat → PE p q.o.toNat (ge p.es k).b.toNat q.o.toNat
 | ret {a c r : Nat} {q s : Pr} : c < p.es.length → (ge p.es c).k = 2 → q ∈ gf p.fl c → r < p.es.length → ((ge p.es r).k = 3 ∨ (ge p.es r).k = 4) → s ∈ gf p.fl r → (ge p.es c).a = (ge p.es r).c →
     (gn p.ns (ge p.es c).b.toNat).f = (gn p.ns (ge p.es r).a.toNat).f → PE p a (ge p.es c).a.toNat q.i.toNat → PE p q.o.toNat (ge p.es r).a.toNat s.i.toNat → PE p a (ge p.es r).b.toNat s.o.toNat
theorem main_in {ns : List Nd} {m : Int} (h : nodesErr ns m = 0) : 0 ≤ m ∧ m < ns.length ∧ (gn ns m.toNat).k = 1:=by
 unfold nodesErr at h
 split at h
 · rename_i h0;exact absurd h h0
 · split at h
   · rename_i h0;exact absurd h h0
   · unfold mainErr at h
     split at h
     · cases h
     · omega
end If
end Go.Df
namespace Go.Df
open Go.RowKit
namespace If
open Sp
def stOf (ns : List Nd) : Nat → Nat
 | 0 => 0
 | i + 1 => if (gn ns (i + 1)).k = 1 then i + 1 else stOf ns i
theorem stOf_le (ns : List Nd) : ∀ i,stOf ns i ≤ i
 | 0 => Nat.le_refl _
 | i + 1 => by
   rw [stOf]
   split
   · exact Nat.le_refl _
   · exact Nat.le_succ_of_le (stOf_le ns i)
theorem stOf_hit {ns : List Nd} {j : Nat} : ∀ {i : Nat},j ≤ i → (gn ns j).k = 1 → j ≤ stOf ns i ∧ (gn ns (stOf ns i)).k = 1
 | 0, h, hk => by obtain rfl : j = 0 := by omega
                  exact ⟨Nat.zero_le _,hk⟩
 | i + 1,h,hk => by
   rw [stOf]
   split
   · rename_i h1;exact ⟨h,h1⟩
   · rename_i h1
     by_cases e : j = i + 1
     · subst e;exact absurd hk h1
     · exact stOf_hit (by omega) hk
structure NdOk (ns : List Nd) : Prop where
 err : ∀ x,x < ns.length → nodeErr ns x = 0
 st : ∀ x,x < ns.length → ∃ j,j < ns.length ∧ (gn ns j).f = (gn ns x).f ∧ (gn ns j).k = 1
theorem ndOk_of {ns : List Nd} {m : Int} (h : nodesErr ns m = 0) : NdOk ns:=by
 unfold nodesErr at h
 split at h
 · rename_i h0;exact absurd h h0
 · rename_i h0
   split at h
   · rename_i h1;exact absurd h h1
   · rename_i h1
     refine ⟨fun x hx => fe_zero _ _ (Decidable.byContradiction h0) x (Nat.zero_le _) (by omega),fun x hx => ?_⟩
     have h2:=fe_zero _ _ (Decidable.byContradiction h1) x (Nat.zero_le _) (by omega)
     unfold wholeErr at h2
     split at h2
     · cases h2
     · rename_i h3
       refine Classical.byContradiction fun h4 => h3 (.inl (kind_neg.2 fun j hj hh => h4 ⟨j,hj,hh.1,hh.2⟩))
theorem NdOk.kind {ns : List Nd} (h : NdOk ns) {x : Nat} (hx : x < ns.length) : 1 ≤ (gn ns x).k ∧ (gn ns x).k ≤ 4:=by
 have:=h.err x hx
 unfold nodeErr at this
 split at this
 · cases this
 · omega
theorem NdOk.le {ns : List Nd} (h : NdOk ns) {i j : Nat} (hij : i ≤ j) (hj : j < ns.length) : (gn ns i).f ≤ (gn ns j).f:=by
 by_cases e : i = j
 · rw [e];exact Int.le_refl _
 · have:=node_asc h.err j i (by omega) hj
   unfold lessN at this
   split at this
   · have:=of_decide_eq_true this;omega
   · omega
theorem NdOk.ahead {ns : List Nd} (h : NdOk ns) {j x : Nat} (hj : j < ns.length) (hx : x < ns.length) (hf : (gn ns j).f = (gn ns x).f) (hk : (gn ns j).k = 1) : j ≤ x:=by
 rcases Nat.lt_or_ge x j with h1 | h1
 · have h2:=node_asc h.err j x h1 hj
   have h3:=h.kind hx
   unfold lessN at h2
   rw [if_neg (by rw [hf];simp)] at h2
   split at h2
   · have:=of_decide_eq_true h2;omega
   · rename_i h4
     have h5 : (gn ns x).k = 1:=by rw [← hk];exact Decidable.byContradiction h4
     have:=of_decide_eq_true h2
     rw [node_i (h.err x hx) (by omega),node_i (h.err j hj) (by omega)] at this
     omega
 · exact h1
theorem NdOk.start {ns : List Nd} (h : NdOk ns) {x : Nat} (hx : x < ns.length) : (gn ns (stOf ns x)).f = (gn ns x).f ∧ (gn ns (stOf ns x)).k = 1:=by
 obtain ⟨j,hj,hf,hk⟩:=h.st x hx
 have h1:=h.ahead hj hx hf hk
 obtain ⟨h2,h3⟩:=stOf_hit h1 hk
 have h4:=stOf_le ns x
 have h5:=h.le h2 (by omega)
 have h6:=h.le h4 hx
 exact ⟨by omega,h3⟩
theorem NdOk.start_iff {ns : List Nd} (h : NdOk ns) {x s : Nat} (hx : x < ns.length) (hs : s < ns.length) (hk : (gn ns s).k = 1) : stOf ns x = s ↔ (gn ns s).f = (gn ns x).f:=by
 have h1:=h.start hx
 constructor
 · rintro rfl;exact h1.1
 · intro hf
   have hl : stOf ns x < ns.length:=by have:=stOf_le ns x;omega
   have h2:=h.ahead hs hl (by rw [hf,h1.1]) hk
   have h3:=h.ahead hl hs (by rw [hf,h1.1]) h1.2
   omega
theorem Ok.nd {p : Pb} (h : Ok p) : NdOk p.ns:=ndOk_of (sup_parts h.sup).2.2.1
theorem Ok.edge {p : Pb} (h : Ok p) {k : Nat} (hk : k < p.es.length) :
   0 ≤ (ge p.es k).a ∧ (ge p.es k).a < p.ns.length ∧ 0 ≤ (ge p.es k).b ∧ (ge p.es k).b < p.ns.length ∧ 1 ≤ (ge p.es k).k ∧ (ge p.es k).k ≤ 5 ∧ ((ge p.es k).k ≠ 1 → (ge p.es k).k ≠ 5 → 0 ≤ (ge p.es k).c ∧ (ge p.es k).c < p.ns.length) ∧ fitsB p.ns p.es (ge p.es k) = true:=sup_edge h.sup hk
theorem Ok.call {p : Pb} (h : Ok p) {k : Nat} (hk : k < p.es.length) (h2 : (ge p.es k).k = 2) : (gn p.ns (ge p.es k).b.toNat).k = 1 ∧ (gn p.ns (ge p.es k).a.toNat).k = 2 ∧ (ge p.es k).c = (ge p.es k).a:=by
 have h1:=(h.edge hk).2.2.2.2.2.2.2
 unfold fitsB fitsN at h1
 rw [if_neg (by omega),if_pos h2] at h1
 simp at h1
 exact ⟨h1.2,h1.1.1,h1.1.2⟩
theorem Ok.ret {p : Pb} (h : Ok p) {k : Nat} (hk : k < p.es.length) (h2 : (ge p.es k).k = 3 ∨ (ge p.es k).k = 4) : (gn p.ns (ge p.es k).a.toNat).k = 3 ∨ (gn p.ns (ge p.es k).a.toNat).k = 4:=by
 have h1:=(h.edge hk).2.2.2.2.2.2.2
 unfold fitsB fitsN at h1
 rw [if_neg (by omega),if_neg (by omega)] at h1
 split at h1
 · cases h1
 · omega
structure Clo (p : Pb) (T : Nat → Nat → Nat → Prop) : Prop where
 main : T 0 p.mn.toNat 0
 seed : ∀ s ∈ p.sd,T 0 s.n.toNat 0 → T 0 s.n.toNat s.f.toNat
 flow : ∀ k,k < p.es.length → ((ge p.es k).k = 1 ∨ (ge p.es k).k = 5) → ∀ q ∈ gf p.fl k,∀ a,T a (ge p.es k).a.toNat q.i.toNat → T a (ge p.es k).b.toNat q.o.toNat
 call : ∀ k,k < p.es.length → (ge p.es k).k = 2 → ∀ q ∈ gf p.fl k,∀ a,T a (ge p.es k).a.toNat q.i.toNat → T q.o.toNat (ge p.es k).b.toNat q.o.toNat
 ret : ∀ c,c < p.es.length → (ge p.es c).k = 2 → ∀ q ∈ gf p.fl c,∀ r,r < p.es.length → ((ge p.es r).k = 3 ∨ (ge p.es r).k = 4) → ∀ s ∈ gf p.fl r,(ge p.es c).a = (ge p.es r).c → (gn p.ns (ge p.es c).b.toNat).f = (gn p.ns (ge p.es r).a.toNat).f →
   ∀ a,T a (ge p.es c).a.toNat q.i.toNat → T q.o.toNat (ge p.es r).a.toNat s.i.toNat → T a (ge p.es r).b.toNat s.o.toNat
theorem Clo.all {p : Pb} {T : Nat → Nat → Nat → Prop} (h : Clo p T) {a n d : Nat} (hp : PE p a n d) : T a n d:=by
 induction hp with
 | main => exact h.main
 | seed _ hs ih => exact h.seed _ hs ih
 | flow hk hk2 hq _ ih => exact h.flow _ hk hk2 _ hq _ ih
 | call hk hk2 hq _ ih => exact h.call _ hk hk2 _ hq _ ih
 | ret hc hc2 hq hr hr2 hs e1 e2 _ _ ih1 ih2 => exact h.ret _ hc hc2 _ hq _ hr hr2 _ hs e1 e2 _ ih1 ih2
end If
end Go.Df
namespace Go.Df
open Go.RowKit
namespace If
open Sp
structure St where
 h : Nat → Nat → Nat → Bool
 e : Nat → Nat → Nat → Bool
 pd : Nat → List (Nat × Nat)
 q : List Nat
def St.add (s : St) (n a d : Nat) : St :=
 if s.h n a d = true then s else
   ⟨fun n' a' d' => s.h n' a' d' || (n' == n && (a' == a && d' == d)),s.e,fun n' => if n' = n then s.pd n ++ [(a,d)] else s.pd n',if s.pd n = [] then s.q ++ [n] else s.q⟩
def St.ent (s : St) (k b a : Nat) : St:=⟨s.h,fun k' b' a' => s.e k' b' a' || (k' == k && (b' == b && a' == a)),s.pd,s.q⟩
def froms (l : List Pr) (d : Nat) : List Pr:=l.filter fun q => q.i == (d : Int)
def elems (F : Nat) (f : Nat → Bool) : List Nat:=(List.range F).filter f
def outL (p : Pb) (n : Nat) : List Nat:=(List.range p.es.length).filter fun k => (ge p.es k).a == (n : Int)
def callL (p : Pb) (n : Nat) : List Nat:=(List.range p.es.length).filter fun k => (ge p.es k).k == 2 && (ge p.es k).b == (n : Int)
def retL (p : Pb) (n : Nat) : List Nat:=(List.range p.es.length).filter fun k => ((ge p.es k).k == 3 || (ge p.es k).k == 4) && (ge p.es k).c == (n : Int)
def seedL (p : Pb) (n : Nat) : List Sd:=p.sd.filter fun s => s.n == (n : Int)
def spread (p : Pb) (k a d : Nat) (s : St) : St:=(froms (gf p.fl k) d).foldl (fun s q => s.add (ge p.es k).b.toNat a q.o.toNat) s
def enterR (p : Pb) (k a b : Nat) (s : St) (r : Nat) : St :=
 if stOf p.ns (ge p.es r).a.toNat = (ge p.es k).b.toNat then (elems p.F.toNat (s.h (ge p.es r).a.toNat b)).foldl (fun s f => spread p r a f s) s else s
def enter1 (p : Pb) (k a b : Nat) (s : St) : St :=
 if (s.add (ge p.es k).b.toNat b b).e k b a = true then s.add (ge p.es k).b.toNat b b else (retL p (ge p.es k).a.toNat).foldl (enterR p k a b) ((s.add (ge p.es k).b.toNat b b).ent k b a)
def enter (p : Pb) (k a d : Nat) (s : St) : St:=(froms (gf p.fl k) d).foldl (fun s q => enter1 p k a q.o.toNat s) s
def leaveR (p : Pb) (n d : Nat) (cs : List Nat) (s : St) (r : Nat) : St:=if (ge p.es r).a.toNat = n then cs.foldl (fun s a => spread p r a d s) s else s
def leave1 (p : Pb) (n b d : Nat) (s : St) (k : Nat) : St:=(retL p (ge p.es k).a.toNat).foldl (leaveR p n d (elems p.F.toNat (s.e k b))) s
def leave (p : Pb) (n b d : Nat) (s : St) : St:=(callL p (stOf p.ns n)).foldl (leave1 p n b d) s
def stepE (p : Pb) (a d : Nat) (s : St) (k : Nat) : St:=if (ge p.es k).k = 1 ∨ (ge p.es k).k = 5 then spread p k a d s else if (ge p.es k).k = 2 then enter p k a d s else s
def stepA (p : Pb) (n a d : Nat) (s : St) : St:=if a = 0 ∧ d = 0 then (seedL p n).foldl (fun s x => s.add n 0 x.f.toNat) s else s
def step (p : Pb) (n a d : Nat) (s : St) : St :=
 if (gn p.ns n).k = 3 ∨ (gn p.ns n).k = 4 then leave p n a d ((outL p n).foldl (stepE p a d) (stepA p n a d s)) else (outL p n).foldl (stepE p a d) (stepA p n a d s)
structure Le (s t : St) : Prop where
 h : ∀ n a d,s.h n a d = true → t.h n a d = true
 e : ∀ k b a,s.e k b a = true → t.e k b a = true
 pd : ∀ n x,x ∈ s.pd n → x ∈ t.pd n
 new : ∀ n a d,t.h n a d = true → s.h n a d = true ∨ (a,d) ∈ t.pd n
 old : ∀ n x,x ∈ t.pd n → x ∈ s.pd n ∨ s.h n x.1 x.2 = false
structure Snd (p : Pb) (s : St) : Prop where
 h : ∀ n a d,s.h n a d = true → PE p a n d
 e : ∀ k b a,s.e k b a = true → k < p.es.length ∧ (ge p.es k).k = 2 ∧ ∃ q ∈ gf p.fl k,q.o.toNat = b ∧ PE p a (ge p.es k).a.toNat q.i.toNat
theorem outL_mem {p : Pb} {n k : Nat} : k ∈ outL p n ↔ k < p.es.length ∧ (ge p.es k).a = n:=by simp [outL]
theorem callL_mem {p : Pb} {n k : Nat} : k ∈ callL p n ↔ k < p.es.length ∧ (ge p.es k).k = 2 ∧ (ge p.es k).b = n:=by simp [callL]
theorem retL_mem {p : Pb} {n k : Nat} : k ∈ retL p n ↔ k < p.es.length ∧ ((ge p.es k).k = 3 ∨ (ge p.es k).k = 4) ∧ (ge p.es k).c = n:=by simp [retL]
structure Cp (p : Pb) (s : St) (D : Nat → Nat → Nat → Prop) : Prop where
 seed : ∀ n,D n 0 0 → ∀ x ∈ p.sd,x.n = n → s.h n 0 x.f.toNat = true
 flow : ∀ n a d,D n a d → ∀ k,k < p.es.length → ((ge p.es k).k = 1 ∨ (ge p.es k).k = 5) → (ge p.es k).a = n → ∀ q ∈ gf p.fl k,q.i = d → s.h (ge p.es k).b.toNat a q.o.toNat = true
 call : ∀ n a d,D n a d → ∀ k,k < p.es.length → (ge p.es k).k = 2 → (ge p.es k).a = n → ∀ q ∈ gf p.fl k,q.i = d → s.h (ge p.es k).b.toNat q.o.toNat q.o.toNat = true ∧ s.e k q.o.toNat a = true
 ret : ∀ k b a,s.e k b a = true → ∀ r,r < p.es.length → ((ge p.es r).k = 3 ∨ (ge p.es r).k = 4) → (ge p.es r).c = (ge p.es k).a → stOf p.ns (ge p.es r).a.toNat = (ge p.es k).b.toNat → ∀ d,D (ge p.es r).a.toNat b d → ∀ q ∈ gf p.fl r,q.i = d → s.h (ge p.es r).b.toNat a q.o.toNat = true
def Dn (s : St) (n : Nat) (rest : List (Nat × Nat)) (n' a d : Nat) : Prop:=s.h n' a d = true ∧ (a,d) ∉ s.pd n' ∧ ¬ (n' = n ∧ (a,d) ∈ rest)
def CpR (p : Pb) (s : St) (D : Nat → Nat → Nat → Prop) : Prop:=∀ k b a,s.e k b a = true → ∀ r,r < p.es.length → ((ge p.es r).k = 3 ∨ (ge p.es r).k = 4) → (ge p.es r).c = (ge p.es k).a → stOf p.ns (ge p.es r).a.toNat = (ge p.es k).b.toNat → ∀ d,D (ge p.es r).a.toNat b d → ∀ q ∈ gf p.fl r,q.i = d → s.h (ge p.es r).b.toNat a q.o.toNat = true
end If
end Go.Df
namespace Go.Df
open Go.RowKit
namespace Iv
open Sp
structure Vb where
 ns : List Nd
 es : List Ed
 mn : Int
 F : Int
 fl : List (List Xp)
 sd : List Vs
def pf (p : Vb) : If.Pb:=⟨p.ns,p.es,p.mn,p.F,p.fl.map (List.map fun q => ⟨q.i,q.o⟩),p.sd.map fun s => ⟨s.n,s.f⟩⟩
def vErr (p : Vb) : Int:=ideErr p.ns p.es p.mn p.F p.fl p.sd
structure VFit (p : Vb) : Prop where
 fl : ∀ k,∀ q ∈ gl p.fl k,wrap64 q.b = q.b ∧ wrap64 q.c = q.c
 sd : ∀ s ∈ p.sd,wrap64 s.v = s.v
structure VOk (p : Vb) : Prop where
 sup : superErr p.ns p.es p.mn = 0
 f1 : 1 ≤ p.F
 f2 : p.F ≤ 1024
 len : p.fl.length = p.es.length
 fl : ∀ k,k < p.fl.length → (gl p.fl k).length ≤ 8192 ∧ (∀ j,j < (gl p.fl k).length → pairErr p.F (gl p.fl k) j = 0) ∧ 0 < (gl p.fl k).length ∧ gx (gl p.fl k) 0 = ⟨0,0,2,0,0⟩
 sd : ∀ j,j < p.sd.length → seedErr p.ns.length p.F p.sd j = 0
theorem vok_of {p : Vb} (h : vErr p = 0) : VOk p:=by
 unfold vErr ideErr at h
 by_cases h1 : superErr p.ns p.es p.mn = 0
 case neg => rw [if_pos h1] at h;exact absurd h h1
 rw [if_neg (not_not_intro h1)] at h
 by_cases h2 : p.F < 1 ∨ 1024 < p.F
 · rw [if_pos h2] at h;cases h
 rw [if_neg h2] at h
 by_cases h3 : p.fl.length = p.es.length
 case neg => rw [if_pos h3] at h;cases h
 rw [if_neg (not_not_intro h3)] at h
 by_cases h4 : fe (fun i => pairsErr p.F (gl p.fl i)) 0 p.fl.length = 0
 case neg => rw [if_pos h4] at h;exact absurd h h4
 rw [if_neg (not_not_intro h4)] at h
 refine ⟨h1,by omega,by omega,h3,fun k hk => ?_,fun j hj => Sp.fe_zero _ _ h j (Nat.zero_le _) (by omega)⟩
 have h5:=Sp.fe_zero _ _ h4 k (Nat.zero_le _) (by omega)
 unfold pairsErr at h5
 by_cases h6 : 8192 < (gl p.fl k).length
 · rw [if_pos h6] at h5;cases h5
 rw [if_neg h6] at h5
 by_cases h7 : fe (pairErr p.F (gl p.fl k)) 0 (gl p.fl k).length = 0
 case neg => rw [if_pos h7] at h5;exact absurd h5 h7
 rw [if_neg (not_not_intro h7)] at h5
 by_cases h8 : (gl p.fl k).length = 0 ∨ gx (gl p.fl k) 0 ≠ ⟨0,0,2,0,0⟩
 · rw [if_pos h8] at h5;cases h5
 · rw [not_or,Classical.not_not] at h8
   exact ⟨by omega,fun j hj => Sp.fe_zero _ _ h7 j (Nat.zero_le _) (by omega),by omega,h8.2⟩
theorem pair_in {F : Int} {l : List Xp} {j : Nat} (h : pairErr F l j = 0) : 0 ≤ (gx l j).i ∧ (gx l j).i < F ∧ 0 ≤ (gx l j).o ∧ (gx l j).o < F ∧ xerr (gx l j).k (gx l j).b (gx l j).c = 0 ∧ (0 < j → lessP (gx l (j - 1)) (gx l j) = true):=by
 unfold pairErr at h
 split at h
 · cases h
 · split at h
   · cases h
   · rename_i h1 h2
     refine ⟨by omega,by omega,by omega,by omega,h,fun h3 => ?_⟩
     cases hh : lessP (gx l (j - 1)) (gx l j) with
     | true => rfl
     | false => exact absurd ⟨h3,hh⟩ h2
theorem gl_ge {ls : List (List Xp)} {i : Nat} (h : ls.length ≤ i) : gl ls i = []:=by simp [gl,h]
theorem mem_gx {l : List Xp} {q : Xp} (h : q ∈ l) : ∃ i,i < l.length ∧ gx l i = q:=by
 obtain ⟨i,hi,rfl⟩:=List.getElem_of_mem h
 exact ⟨i,hi,gx_lt hi⟩
theorem gx_mem {l : List Xp} {i : Nat} (h : i < l.length) : gx l i ∈ l:=by rw [gx_lt h];exact List.getElem_mem h
theorem mem_gs {l : List Vs} {q : Vs} (h : q ∈ l) : ∃ i,i < l.length ∧ gs l i = q:=by
 obtain ⟨i,hi,rfl⟩:=List.getElem_of_mem h
 exact ⟨i,hi,gs_lt hi⟩
theorem gs_mem {l : List Vs} {i : Nat} (h : i < l.length) : gs l i ∈ l:=by rw [gs_lt h];exact List.getElem_mem h
theorem mem_gl {ls : List (List Xp)} {k : Nat} {q : Xp} (h : q ∈ gl ls k) : k < ls.length:=by
 rcases Nat.lt_or_ge k ls.length with h1 | h1
 · exact h1
 · rw [gl_ge h1] at h;cases h
theorem VOk.pair {p : Vb} (h : VOk p) {k : Nat} {q : Xp} (hq : q ∈ gl p.fl k) : 0 ≤ q.i ∧ q.i < p.F ∧ 0 ≤ q.o ∧ q.o < p.F ∧ xerr q.k q.b q.c = 0:=by
 obtain ⟨j,hj,rfl⟩:=mem_gx hq
 have h1:=pair_in ((h.fl k (mem_gl hq)).2.1 j hj)
 exact ⟨h1.1,h1.2.1,h1.2.2.1,h1.2.2.2.1,h1.2.2.2.2.1⟩
theorem VOk.seed {p : Vb} (h : VOk p) {s : Vs} (hs : s ∈ p.sd) : 0 ≤ s.n ∧ s.n < p.ns.length ∧ 1 ≤ s.f ∧ s.f < p.F ∧ verr s.k s.v = 0:=by
 obtain ⟨j,hj,rfl⟩:=mem_gs hs
 have h1:=h.sd j hj
 unfold seedErr at h1
 split at h1
 · cases h1
 · split at h1
   · rename_i h2 h3;exact absurd h1 h3
   · rename_i h2 h3
     exact ⟨by omega,by omega,by omega,by omega,Classical.not_not.mp h3⟩
theorem pf_gf (p : Vb) (k : Nat) : If.gf (pf p).fl k = (gl p.fl k).map fun q => ⟨q.i,q.o⟩:=by
 show If.gf (p.fl.map _) k = _
 unfold If.gf gl
 rw [List.getD_eq_getElem?_getD,List.getD_eq_getElem?_getD,List.getElem?_map]
 cases p.fl[k]? <;> rfl
theorem pf_gp (l : List Xp) (j : Nat) : If.gp (l.map fun q => ⟨q.i,q.o⟩) j = ⟨(gx l j).i,(gx l j).o⟩:=by
 unfold If.gp gx
 rw [List.getD_eq_getElem?_getD,List.getD_eq_getElem?_getD,List.getElem?_map]
 cases l[j]? <;> rfl
theorem pf_gd (l : List Vs) (j : Nat) : If.gd (l.map fun q => ⟨q.n,q.f⟩) j = ⟨(gs l j).n,(gs l j).f⟩:=by
 unfold If.gd gs
 rw [List.getD_eq_getElem?_getD,List.getD_eq_getElem?_getD,List.getElem?_map]
 cases l[j]? <;> rfl
theorem VOk.pf {p : Vb} (h : VOk p) : If.Ok (pf p):=by
 refine ⟨h.sup,h.f1,h.f2,by show (p.fl.map _).length = _;rw [List.length_map];exact h.len,fun k hk => ?_,fun j hj => ?_⟩
 · have hk' : k < p.fl.length:=by have : k < (p.fl.map (List.map fun q => (⟨q.i,q.o⟩ : If.Pr))).length:=hk;simpa using this
   have h1:=h.fl k hk'
   rw [pf_gf]
   refine ⟨by simpa using h1.1,fun j hj => ?_,by simpa using h1.2.2.1,by rw [pf_gp,h1.2.2.2]⟩
   have hj' : j < (gl p.fl k).length:=by simpa using hj
   have h2:=pair_in (h1.2.1 j hj')
   unfold If.prErr
   rw [pf_gp,pf_gp]
   dsimp only
   have hF : (Iv.pf p).F = p.F:=rfl
   rw [hF,if_neg (by omega),if_neg (fun hh => by
     have h3:=h2.2.2.2.2.2 hh.1
     have h4 : If.lessR ⟨(gx (gl p.fl k) (j - 1)).i,(gx (gl p.fl k) (j - 1)).o⟩ ⟨(gx (gl p.fl k) j).i,(gx (gl p.fl k) j).o⟩ = lessP (gx (gl p.fl k) (j - 1)) (gx (gl p.fl k) j):=rfl
     rw [h4,h3] at hh
     cases hh.2)]
 · have hj' : j < p.sd.length:=by have : j < (p.sd.map fun s => (⟨s.n,s.f⟩ : If.Sd)).length:=hj;simpa using this
   have h1:=h.sd j hj'
   have h2:=h.seed (gs_mem hj')
   have e : (Iv.pf p).sd = p.sd.map fun s => ⟨s.n,s.f⟩:=rfl
   unfold If.sdErr
   rw [e,pf_gd,pf_gd]
   dsimp only
   have hF : (Iv.pf p).F = p.F:=rfl
   have hN : (Iv.pf p).ns.length = p.ns.length:=rfl
   rw [hF,hN,if_neg (by omega),if_neg (fun hh => ?_)]
   unfold seedErr at h1
   rw [if_neg (by omega),if_neg (by rw [h2.2.2.2.2];simp)] at h1
   rw [if_pos ⟨hh.1,hh.2⟩] at h1
   cases h1
open Classical in
/-- The transformer of a pair. -/
noncomputable def xd (q : Xp) : D:=if h : Go.Proofs.YtincpmdldpakkaaGreatDoor.Xf.rcheck ⟨q.k,q.b,q.c⟩ = 0 ∧ Go.Proofs.YtincpmdldpakkaaGreatDoor.Xf.fits ⟨q.k,q.b,q.c⟩ then mkD ⟨q.k,q.b,q.c⟩ h else top
theorem xerr_rcheck (k b c : Int) : xerr k b c = Go.Proofs.YtincpmdldpakkaaGreatDoor.Xf.rcheck ⟨k,b,c⟩:=by
 unfold xerr Go.Proofs.YtincpmdldpakkaaGreatDoor.Xf.rcheck
 rfl
theorem xd_is {q : Xp} (h : xerr q.k q.b q.c = 0) (hb : wrap64 q.b = q.b) (hc : wrap64 q.c = q.c) : (xd q).1 = ⟨q.k,q.b,q.c⟩:=by
 unfold xd
 split
 · exact mkD_val _
 · rename_i h1
   exact absurd ⟨by rw [← xerr_rcheck];exact h,hb,hc⟩ h1
theorem xd_of {p : Vb} (ho : VOk p) (hf : VFit p) {k : Nat} {q : Xp} (hq : q ∈ gl p.fl k) : (xd q).1 = ⟨q.k,q.b,q.c⟩ :=
 xd_is (ho.pair hq).2.2.2.2 (hf.fl k q hq).1 (hf.fl k q hq).2
def sx (s : Vs) : D:=if s.k = 1 then (if h : wrap64 s.v = s.v then mkD ⟨1,0,s.v⟩ ⟨check_const s.v,wrap_zero,h⟩ else top) else if s.k = 2 then bot else top
structure Clo (p : Vb) (T : Nat → Nat → Nat → D) : Prop where
 main : le (T p.mn.toNat 0 0) shift
 seed : ∀ s ∈ p.sd,T s.n.toNat 0 0 ≠ top → le (T s.n.toNat 0 s.f.toNat) (sx s)
 flow : ∀ k,k < p.es.length → ((ge p.es k).k = 1 ∨ (ge p.es k).k = 5) → ∀ q ∈ gl p.fl k,∀ a,le (T (ge p.es k).b.toNat a q.o.toNat) (comp (T (ge p.es k).a.toNat a q.i.toNat) (xd q))
 call : ∀ k,k < p.es.length → (ge p.es k).k = 2 → ∀ q ∈ gl p.fl k,∀ a,T (ge p.es k).a.toNat a q.i.toNat ≠ top → xd q ≠ top → le (T (ge p.es k).b.toNat q.o.toNat q.o.toNat) shift
 ret : ∀ c,c < p.es.length → (ge p.es c).k = 2 → ∀ q ∈ gl p.fl c,∀ r,r < p.es.length → ((ge p.es r).k = 3 ∨ (ge p.es r).k = 4) → ∀ s ∈ gl p.fl r,(ge p.es c).a = (ge p.es r).c → (gn p.ns (ge p.es c).b.toNat).f = (gn p.ns (ge p.es r).a.toNat).f →
   ∀ a,le (T (ge p.es r).b.toNat a s.o.toNat) (comp (comp (comp (T (ge p.es c).a.toNat a q.i.toNat) (xd q)) (T (ge p.es r).a.toNat q.o.toNat s.i.toNat)) (xd s))
def Snd (p : Vb) (T : Nat → Nat → Nat → D) : Prop:=∀ U,Clo p U → ∀ n a d,le (U n a d) (T n a d)
theorem clo_eq {p : Vb} {T U : Nat → Nat → Nat → D} (hT : Clo p T) (sT : Snd p T) (hU : Clo p U) (sU : Snd p U) (n a d : Nat) : T n a d = U n a d:=le_antisymm (sU T hT n a d) (sT U hU n a d)
structure VClo (p : Vb) (T : Nat → Nat → Nat → D) (V : Nat → Nat → U) : Prop where
 main : leV (V p.mn.toNat 0) botV
 call : ∀ k,k < p.es.length → (ge p.es k).k = 2 → ∀ q ∈ gl p.fl k,∀ a,leV (V (ge p.es k).b.toNat q.o.toNat) (app (comp (T (ge p.es k).a.toNat a q.i.toNat) (xd q)) (V (If.stOf p.ns (ge p.es k).a.toNat) a))
def VSnd (p : Vb) (T : Nat → Nat → Nat → D) (V : Nat → Nat → U) : Prop:=∀ Y,VClo p T Y → ∀ n a,leV (Y n a) (V n a)
theorem vclo_eq {p : Vb} {T : Nat → Nat → Nat → D} {V W : Nat → Nat → U} (hV : VClo p T V) (sV : VSnd p T V) (hW : VClo p T W) (sW : VSnd p T W) (n a : Nat) : V n a = W n a:=leV_antisymm (sW V hV n a) (sV W hW n a)
def Glb (S : U → Prop) (v : U) : Prop:=(∀ u,S u → leV v u) ∧ ∀ z,(∀ u,S u → leV z u) → leV z v
theorem Glb.eq {S : U → Prop} {v w : U} (h : Glb S v) (k : Glb S w) : v = w:=leV_antisymm (k.2 v h.1) (h.2 w k.1)
theorem Glb.none {S : U → Prop} (h : ∀ u,¬ S u) : Glb S topV:=⟨fun u hu => absurd hu (h u),fun z _ => leV_top z⟩
theorem Glb.add {S S' : U → Prop} {v u : U} (h : Glb S v) (hs : ∀ x,S' x ↔ S x ∨ x = u) : Glb S' (meetV v u):=by
 refine ⟨fun x hx => ?_,fun z hz => le_meetV (h.2 z fun x hx => hz x ((hs x).2 (.inl hx))) (hz u ((hs u).2 (.inr rfl)))⟩
 rcases (hs x).1 hx with h1 | rfl
 · exact leV_trans (meetV_le_left v u) (h.1 x h1)
 · exact meetV_le_right v x
theorem Glb.iff {S S' : U → Prop} {v : U} (h : Glb S v) (hs : ∀ x,S' x ↔ S x) : Glb S' v:=⟨fun u hu => h.1 u ((hs u).1 hu),fun z hz => h.2 z fun u hu => hz u ((hs u).2 hu)⟩
def At (p : Vb) (T : Nat → Nat → Nat → D) (V : Nat → Nat → U) (n d : Nat) (u : U) : Prop:=∃ a,u = app (T n a d) (V (If.stOf p.ns n) a)
end Iv
end Go.Df
namespace Go.Proofs.YtincpmdldpakkaaGreatDoor
open Go.RowKit Go.Df
def metS (me : Xf.V → Xf.V → Xf.V) (sd : List Sp.Vs) (nd : Int) (f : Nat → Xf.V) : Nat → Nat → Xf.V
 | 0,i => f i
 | j + 1,i => if (Sp.gs sd j).n = nd ∧ i = (Sp.gs sd j).f.toNat then me (metS me sd nd f j i) ⟨(Sp.gs sd j).k,(Sp.gs sd j).v⟩ else metS me sd nd f j i
def prS (me : Xf.V → Xf.V → Xf.V) (ap : Xf.X → Xf.V → Xf.V) (ps : List Sp.Xp) (l : Nat → Xf.V) : Nat → Nat → Xf.V
 | 0,_ => ⟨0,0⟩
 | j + 1,i => if i = (Sp.gx ps j).o.toNat then me (prS me ap ps l j i) (ap ⟨(Sp.gx ps j).k,(Sp.gx ps j).b,(Sp.gx ps j).c⟩ (l (Sp.gx ps j).i.toNat)) else prS me ap ps l j i
def afterS (me : Xf.V → Xf.V → Xf.V) (ap : Xf.X → Xf.V → Xf.V) (sd : List Sp.Vs) (nd : Int) (ps : List Sp.Xp) (l : Nat → Xf.V) : Nat → Xf.V:=metS me sd nd (prS me ap ps l ps.length) sd.length
def bot0 : Nat → Xf.V:=fun i => if i = 0 then ⟨2,0⟩ else ⟨0,0⟩
def runJ (me : Xf.V → Xf.V → Xf.V) (ap : Xf.X → Xf.V → Xf.V) (es : List Sp.Ed) (ls : List (List Sp.Xp)) (sd : List Sp.Vs) (mn : Int) (path : List Int) : Nat → Nat → Xf.V
 | 0 => metS me sd mn bot0 sd.length
 | j + 1 => afterS me ap sd (ge es (gi path j).toNat).b (Sp.gl ls (gi path j).toNat) (runJ me ap es ls sd mn path j)
theorem pr_one {me : Xf.V → Xf.V → Xf.V} {ap : Xf.X → Xf.V → Xf.V} {ps : List Sp.Xp} {l : Nat → Xf.V} {j : Nat} :
   (fun i => if i = (Sp.gx ps j).o.toNat then me (prS me ap ps l j (Sp.gx ps j).o.toNat) (ap ⟨(Sp.gx ps j).k,(Sp.gx ps j).b,(Sp.gx ps j).c⟩ (l (Sp.gx ps j).i.toNat)) else prS me ap ps l j i) = prS me ap ps l (j + 1):=by
 funext i
 rw [prS]
 by_cases hi : i = (Sp.gx ps j).o.toNat
 · rw [if_pos hi,if_pos hi,hi]
 · rw [if_neg hi,if_neg hi]
end Go.Proofs.YtincpmdldpakkaaGreatDoor
