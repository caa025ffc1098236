/- Texts: Ia Ib Ic. -/
import Derived.Test.YtincpmdldpakkaaGreatDoorRc04
namespace Go.Df
open Go.RowKit
namespace If
open Sp
structure Pr where
 i : Int
 o : Int
deriving DecidableEq
structure Sd where
 n : Int
 f : Int
deriving DecidableEq
def gp (l : List Pr) (i : Nat) : Pr := l.getD i ⟨0, 0⟩
def gd (l : List Sd) (i : Nat) : Sd := l.getD i ⟨0, 0⟩
def gf (ls : List (List Pr)) (i : Nat) : List Pr := ls.getD i []
theorem gp_lt {l : List Pr} {i : Nat} (h : i < l.length) : gp l i = l[i] := by simp [gp, h]
theorem gd_lt {l : List Sd} {i : Nat} (h : i < l.length) : gd l i = l[i] := by simp [gd, h]
theorem gp_mem {l : List Pr} {i : Nat} (h : i < l.length) : gp l i ∈ l := by rw [gp_lt h]; exact List.getElem_mem h
theorem gd_mem {l : List Sd} {i : Nat} (h : i < l.length) : gd l i ∈ l := by rw [gd_lt h]; exact List.getElem_mem h
theorem mem_gp {l : List Pr} {q : Pr} (h : q ∈ l) : ∃ i, i < l.length ∧ gp l i = q := by
 obtain ⟨i, hi, rfl⟩ := List.getElem_of_mem h
 exact ⟨i, hi, gp_lt hi⟩
theorem mem_gd {l : List Sd} {q : Sd} (h : q ∈ l) : ∃ i, i < l.length ∧ gd l i = q := by
 obtain ⟨i, hi, rfl⟩ := List.getElem_of_mem h
 exact ⟨i, hi, gd_lt hi⟩
def lessR (a b : Pr) : Bool := if a.i ≠ b.i then decide (a.i < b.i) else decide (a.o < b.o)
def lessD (a b : Sd) : Bool := if a.n ≠ b.n then decide (a.n < b.n) else decide (a.f < b.f)
def prErr (F : Int) (l : List Pr) (j : Nat) : Int :=
 if (gp l j).i < 0 ∨ F ≤ (gp l j).i ∨ (gp l j).o < 0 ∨ F ≤ (gp l j).o then 4 else if 0 < j ∧ lessR (gp l (j - 1)) (gp l j) = false then 13 else 0
def flErr (F : Int) (l : List Pr) : Int :=
 if F < 1 ∨ 1024 < F then 4 else if 8192 < l.length then 3 else if fe (prErr F l) 0 l.length ≠ 0 then fe (prErr F l) 0 l.length else if l.length = 0 ∨ gp l 0 ≠ ⟨0, 0⟩ then 1 else 0
def sdErr (N : Nat) (F : Int) (l : List Sd) (j : Nat) : Int :=
 if (gd l j).n < 0 ∨ (N : Int) ≤ (gd l j).n ∨ (gd l j).f < 1 ∨ F ≤ (gd l j).f then 4 else if 0 < j ∧ lessD (gd l (j - 1)) (gd l j) = false then 13 else 0
structure Pb where
 ns : List Nd
 es : List Ed
 mn : Int
 F : Int
 fl : List (List Pr)
 sd : List Sd
def pbErr (p : Pb) : Int :=
 if superErr p.ns p.es p.mn ≠ 0 then superErr p.ns p.es p.mn else if p.F < 1 ∨ 1024 < p.F then 4 else if p.fl.length ≠ p.es.length then 20
 else if fe (fun i => flErr p.F (gf p.fl i)) 0 p.fl.length ≠ 0 then fe (fun i => flErr p.F (gf p.fl i)) 0 p.fl.length else fe (sdErr p.ns.length p.F p.sd) 0 p.sd.length
theorem fl_hit {F : Int} {l : List Pr} {e : Int} {j : Nat} (h0 : 1 ≤ F) (h2 : F ≤ 1024) (h1 : l.length ≤ 8192) (h : ∀ x, x < j → prErr F l x = 0) (hj : j < l.length) (he : prErr F l j = e) (hn : e ≠ 0) : flErr F l = e := by
 unfold flErr
 rw [if_neg (by omega), if_neg (by omega), fe_hit h hj he hn, if_pos hn]
theorem fl_end {F : Int} {l : List Pr} (h0 : 1 ≤ F) (h2 : F ≤ 1024) (h1 : l.length ≤ 8192) (h : ∀ x, x < l.length → prErr F l x = 0) : flErr F l = if l.length = 0 ∨ gp l 0 ≠ ⟨0, 0⟩ then 1 else 0 := by
 unfold flErr
 rw [if_neg (by omega), if_neg (by omega), fe_ok l.length 0 (fun i _ hi => h i (by omega)), if_neg (by simp)]
theorem pb_flow {p : Pb} {e : Int} {j : Nat} (h1 : superErr p.ns p.es p.mn = 0) (h2 : ¬ (p.F < 1 ∨ 1024 < p.F)) (h3 : p.fl.length = p.es.length)
  (h : ∀ x, x < j → flErr p.F (gf p.fl x) = 0) (hj : j < p.fl.length) (he : flErr p.F (gf p.fl j) = e) (h0 : e ≠ 0) : pbErr p = e := by
 unfold pbErr
 rw [if_neg (not_not_intro h1), if_neg h2, if_neg (not_not_intro h3), fe_hit h hj he h0, if_pos h0]
theorem pb_seed {p : Pb} {e : Int} {j : Nat} (h1 : superErr p.ns p.es p.mn = 0) (h2 : ¬ (p.F < 1 ∨ 1024 < p.F)) (h3 : p.fl.length = p.es.length)
  (h4 : ∀ x, x < p.fl.length → flErr p.F (gf p.fl x) = 0) (h : ∀ x, x < j → sdErr p.ns.length p.F p.sd x = 0) (hj : j < p.sd.length) (he : sdErr p.ns.length p.F p.sd j = e) (h0 : e ≠ 0) : pbErr p = e := by
 unfold pbErr
 rw [if_neg (not_not_intro h1), if_neg h2, if_neg (not_not_intro h3), fe_ok p.fl.length 0 (fun i _ hi => h4 i (by omega)), if_neg (by simp), fe_hit h hj he h0]
theorem pb_ok {p : Pb} (h1 : superErr p.ns p.es p.mn = 0) (h2 : ¬ (p.F < 1 ∨ 1024 < p.F)) (h3 : p.fl.length = p.es.length)
  (h4 : ∀ x, x < p.fl.length → flErr p.F (gf p.fl x) = 0) (h : ∀ x, x < p.sd.length → sdErr p.ns.length p.F p.sd x = 0) : pbErr p = 0 := by
 unfold pbErr
 rw [if_neg (not_not_intro h1), if_neg h2, if_neg (not_not_intro h3), fe_ok p.fl.length 0 (fun i _ hi => h4 i (by omega)), if_neg (by simp), fe_ok p.sd.length 0 (fun i _ hi => h i (by omega))]
theorem lessR_trans {a b c : Pr} (h1 : lessR a b = true) (h2 : lessR b c = true) : lessR a c = true := by
 unfold lessR at *
 grind
theorem pr_asc {F : Int} {l : List Pr} (h : ∀ x, x < l.length → prErr F l x = 0) {i : Nat} : ∀ (d : Nat), i + d + 1 < l.length → lessR (gp l i) (gp l (i + d + 1)) = true := by
 have adj : ∀ j, j + 1 < l.length → lessR (gp l j) (gp l (j + 1)) = true := fun j hj => by
  have := h (j + 1) hj
  unfold prErr at this
  split at this
  ·cases this
  ·split at this
   ·cases this
   ·rename_i hv
    cases hh : lessR (gp l j) (gp l (j + 1)) with
    | true => rfl
    | false => exact absurd ⟨Nat.succ_pos _, hh⟩ hv
 intro d
 induction d with
 | zero => intro hi; exact adj i hi
 | succ d ih => intro hi; exact lessR_trans (ih (by omega)) (adj (i + d + 1) (by omega))
theorem pr_in {F : Int} {l : List Pr} {j : Nat} (h : prErr F l j = 0) : 0 ≤ (gp l j).i ∧ (gp l j).i < F ∧ 0 ≤ (gp l j).o ∧ (gp l j).o < F := by
 unfold prErr at h
 split at h
 ·cases h
 ·omega
theorem pr_first {F : Int} {l : List Pr} (h : ∀ x, x < l.length → prErr F l x = 0) {j : Nat} (hj : j < l.length) (he : gp l j = ⟨0, 0⟩) : gp l 0 = ⟨0, 0⟩ := by
 by_cases h0 : j = 0
 ·subst h0; exact he
 ·have h1 := pr_asc h (i := 0) (j - 1) (by omega)
  rw [show 0 + (j - 1) + 1 = j by omega, he] at h1
  have h2 := pr_in (h 0 (by omega))
  unfold lessR at h1
  dsimp only at h1
  split at h1
  ·have := of_decide_eq_true h1; omega
  ·have := of_decide_eq_true h1; omega
structure Ok (p : Pb) : Prop where
 sup : superErr p.ns p.es p.mn = 0
 f1 : 1 ≤ p.F
 f2 : p.F ≤ 1024
 len : p.fl.length = p.es.length
 fl : ∀ k, k < p.fl.length → (gf p.fl k).length ≤ 8192 ∧ (∀ j, j < (gf p.fl k).length → prErr p.F (gf p.fl k) j = 0) ∧ 0 < (gf p.fl k).length ∧ gp (gf p.fl k) 0 = ⟨0, 0⟩
 sd : ∀ j, j < p.sd.length → sdErr p.ns.length p.F p.sd j = 0
theorem Ok.pair {p : Pb} (h : Ok p) {k : Nat} (hk : k < p.fl.length) {q : Pr} (hq : q ∈ gf p.fl k) : 0 ≤ q.i ∧ q.i < p.F ∧ 0 ≤ q.o ∧ q.o < p.F := by
 obtain ⟨j, hj, rfl⟩ := mem_gp hq
 exact pr_in ((h.fl k hk).2.1 j hj)
theorem Ok.seed {p : Pb} (h : Ok p) {s : Sd} (hs : s ∈ p.sd) : 0 ≤ s.n ∧ s.n < p.ns.length ∧ 1 ≤ s.f ∧ s.f < p.F := by
 obtain ⟨j, hj, rfl⟩ := mem_gd hs
 have := h.sd j hj
 unfold sdErr at this
 split at this
 ·cases this
 ·omega
theorem sup_parts {ns : List Nd} {es : List Ed} {m : Int} (h : superErr ns es m = 0) : ns.length ≤ 8192 ∧ es.length ≤ 32768 ∧ nodesErr ns m = 0 ∧ ∀ k, k < es.length → edgeErr ns es k = 0 := by
 unfold superErr at h
 split at h
 ·cases h
 ·split at h
  ·rename_i h0; exact absurd h h0
  ·rename_i h0
   exact ⟨by omega, by omega, Decidable.byContradiction h0, fun k hk => fe_zero _ _ h k (Nat.zero_le _) (by omega)⟩
theorem sup_edge {ns : List Nd} {es : List Ed} {m : Int} (h : superErr ns es m = 0) {k : Nat} (hk : k < es.length) :
  0 ≤ (ge es k).a ∧ (ge es k).a < ns.length ∧ 0 ≤ (ge es k).b ∧ (ge es k).b < ns.length ∧ 1 ≤ (ge es k).k ∧ (ge es k).k ≤ 5 ∧ ((ge es k).k ≠ 1 → (ge es k).k ≠ 5 → 0 ≤ (ge es k).c ∧ (ge es k).c < ns.length) ∧ fitsB ns es (ge es k) = true := by
 have := (sup_parts h).2.2.2 k hk
 unfold edgeErr at this
 split at this
 ·cases this
 ·split at this
  ·cases this
  ·split at this
   ·cases this
   ·split at this
    ·cases this
    ·split at this
     ·cases this
     ·rename_i h9
      refine ⟨by omega, by omega, by omega, by omega, by omega, by omega, fun h1 h2 => by omega, by simpa using h9⟩
inductive PE (p : Pb) : Nat → Nat → Nat → Prop
 | main : PE p 0 p.mn.toNat 0
 | seed {s : Sd} : PE p 0 s.n.toNat 0 → s ∈ p.sd → PE p 0 s.n.toNat s.f.toNat
 | flow {a k : Nat} {q : Pr} : k < p.es.length → ((ge p.es k).k = 1 ∨ (ge p.es k).k = 5) → q ∈ gf p.fl k → PE p a (ge p.es k).a.toNat q.i.toNat → PE p a (ge p.es k).b.toNat q.o.toNat
 | call {a k : Nat} {q : Pr} : k < p.es.length → (ge p.es k).k = 2 → q ∈ gf p.fl k → PE p a (ge p.es k).a.toNat q.i.toNat → PE p q.o.toNat (ge p.es k).b.toNat q.o.toNat
 | ret {a c r : Nat} {q s : Pr} : c < p.es.length → (ge p.es c).k = 2 → q ∈ gf p.fl c → r < p.es.length → ((ge p.es r).k = 3 ∨ (ge p.es r).k = 4) → s ∈ gf p.fl r → (ge p.es c).a = (ge p.es r).c →
     (gn p.ns (ge p.es c).b.toNat).f = (gn p.ns (ge p.es r).a.toNat).f → PE p a (ge p.es c).a.toNat q.i.toNat → PE p q.o.toNat (ge p.es r).a.toNat s.i.toNat → PE p a (ge p.es r).b.toNat s.o.toNat
theorem main_in {ns : List Nd} {m : Int} (h : nodesErr ns m = 0) : 0 ≤ m ∧ m < ns.length ∧ (gn ns m.toNat).k = 1 := by
 unfold nodesErr at h
 split at h
 ·rename_i h0; exact absurd h h0
 ·split at h
  ·rename_i h0; exact absurd h h0
  ·unfold mainErr at h
   split at h
   ·cases h
   ·omega
theorem PE.rng {p : Pb} (h : Ok p) {a n d : Nat} (hp : PE p a n d) : n < p.ns.length ∧ (a : Int) < p.F ∧ (d : Int) < p.F := by
 have f1 := h.f1
 have hm := main_in (sup_parts h.sup).2.2.1
 induction hp with
 | main => exact ⟨by omega, by omega, by omega⟩
 | seed _ hs ih => have := h.seed hs; exact ⟨by omega, by omega, by omega⟩
 | flow hk _ hq _ ih => have := h.pair (by rw [h.len]; exact hk) hq; have := sup_edge h.sup hk; exact ⟨by omega, by omega, by omega⟩
 | call hk _ hq _ ih => have := h.pair (by rw [h.len]; exact hk) hq; have := sup_edge h.sup hk; exact ⟨by omega, by omega, by omega⟩
 | ret hc _ _ hr _ hs _ _ _ _ ih1 ih2 => have := h.pair (by rw [h.len]; exact hr) hs; have := sup_edge h.sup hr; exact ⟨by omega, by omega, by omega⟩
end If
end Go.Df
namespace Go.Df
open Go.RowKit
namespace If
open Sp
def stOf (ns : List Nd) : Nat → Nat
 | 0 => 0
 | i + 1 => if (gn ns (i + 1)).k = 1 then i + 1 else stOf ns i
theorem stOf_le (ns : List Nd) : ∀ i, stOf ns i ≤ i
 | 0 => Nat.le_refl _
 | i + 1 => by
  rw [stOf]
  split
  ·exact Nat.le_refl _
  ·exact Nat.le_succ_of_le (stOf_le ns i)
theorem stOf_hit {ns : List Nd} {j : Nat} : ∀ {i : Nat}, j ≤ i → (gn ns j).k = 1 → j ≤ stOf ns i ∧ (gn ns (stOf ns i)).k = 1
 | 0, h, hk => by obtain rfl : j = 0 := by omega
                  exact ⟨Nat.zero_le _, hk⟩
 | i + 1, h, hk => by
   rw [stOf]
   split
   · rename_i h1; exact ⟨h, h1⟩
   · rename_i h1
     by_cases e : j = i + 1
     · subst e; exact absurd hk h1
     · exact stOf_hit (by omega) hk
structure NdOk (ns : List Nd) : Prop where
 err : ∀ x, x < ns.length → nodeErr ns x = 0
 st : ∀ x, x < ns.length → ∃ j, j < ns.length ∧ (gn ns j).f = (gn ns x).f ∧ (gn ns j).k = 1
theorem ndOk_of {ns : List Nd} {m : Int} (h : nodesErr ns m = 0) : NdOk ns := by
 unfold nodesErr at h
 split at h
 ·rename_i h0; exact absurd h h0
 ·rename_i h0
  split at h
  ·rename_i h1; exact absurd h h1
  ·rename_i h1
   refine ⟨fun x hx => fe_zero _ _ (Decidable.byContradiction h0) x (Nat.zero_le _) (by omega), fun x hx => ?_⟩
   have h2 := fe_zero _ _ (Decidable.byContradiction h1) x (Nat.zero_le _) (by omega)
   unfold wholeErr at h2
   split at h2
   ·cases h2
   ·rename_i h3
    refine Classical.byContradiction fun h4 => h3 (.inl (kind_neg.2 fun j hj hh => h4 ⟨j, hj, hh.1, hh.2⟩))
theorem NdOk.kind {ns : List Nd} (h : NdOk ns) {x : Nat} (hx : x < ns.length) : 1 ≤ (gn ns x).k ∧ (gn ns x).k ≤ 4 := by
 have := h.err x hx
 unfold nodeErr at this
 split at this
 ·cases this
 ·omega
theorem NdOk.le {ns : List Nd} (h : NdOk ns) {i j : Nat} (hij : i ≤ j) (hj : j < ns.length) : (gn ns i).f ≤ (gn ns j).f := by
 by_cases e : i = j
 ·rw [e]; exact Int.le_refl _
 ·have := node_asc h.err j i (by omega) hj
  unfold lessN at this
  split at this
  ·have := of_decide_eq_true this; omega
  ·omega
theorem NdOk.ahead {ns : List Nd} (h : NdOk ns) {j x : Nat} (hj : j < ns.length) (hx : x < ns.length) (hf : (gn ns j).f = (gn ns x).f) (hk : (gn ns j).k = 1) : j ≤ x := by
 rcases Nat.lt_or_ge x j with h1 | h1
 ·have h2 := node_asc h.err j x h1 hj
  have h3 := h.kind hx
  unfold lessN at h2
  rw [if_neg (by rw [hf]; simp)] at h2
  split at h2
  ·have := of_decide_eq_true h2; omega
  ·rename_i h4
   have h5 : (gn ns x).k = 1 := by rw [← hk]; exact Decidable.byContradiction h4
   have := of_decide_eq_true h2
   rw [node_i (h.err x hx) (by omega), node_i (h.err j hj) (by omega)] at this
   omega
 ·exact h1
theorem NdOk.start {ns : List Nd} (h : NdOk ns) {x : Nat} (hx : x < ns.length) : (gn ns (stOf ns x)).f = (gn ns x).f ∧ (gn ns (stOf ns x)).k = 1 := by
 obtain ⟨j, hj, hf, hk⟩ := h.st x hx
 have h1 := h.ahead hj hx hf hk
 obtain ⟨h2, h3⟩ := stOf_hit h1 hk
 have h4 := stOf_le ns x
 have h5 := h.le h2 (by omega)
 have h6 := h.le h4 hx
 exact ⟨by omega, h3⟩
theorem NdOk.start_iff {ns : List Nd} (h : NdOk ns) {x s : Nat} (hx : x < ns.length) (hs : s < ns.length) (hk : (gn ns s).k = 1) : stOf ns x = s ↔ (gn ns s).f = (gn ns x).f := by
 have h1 := h.start hx
 constructor
 ·rintro rfl; exact h1.1
 ·intro hf
  have hl : stOf ns x < ns.length := by have := stOf_le ns x; omega
  have h2 := h.ahead hs hl (by rw [hf, h1.1]) hk
  have h3 := h.ahead hl hs (by rw [hf, h1.1]) h1.2
  omega
theorem Ok.nd {p : Pb} (h : Ok p) : NdOk p.ns := ndOk_of (sup_parts h.sup).2.2.1
theorem Ok.edge {p : Pb} (h : Ok p) {k : Nat} (hk : k < p.es.length) :
  0 ≤ (ge p.es k).a ∧ (ge p.es k).a < p.ns.length ∧ 0 ≤ (ge p.es k).b ∧ (ge p.es k).b < p.ns.length ∧ 1 ≤ (ge p.es k).k ∧ (ge p.es k).k ≤ 5 ∧ ((ge p.es k).k ≠ 1 → (ge p.es k).k ≠ 5 → 0 ≤ (ge p.es k).c ∧ (ge p.es k).c < p.ns.length) ∧ fitsB p.ns p.es (ge p.es k) = true := sup_edge h.sup hk
theorem Ok.call {p : Pb} (h : Ok p) {k : Nat} (hk : k < p.es.length) (h2 : (ge p.es k).k = 2) : (gn p.ns (ge p.es k).b.toNat).k = 1 ∧ (gn p.ns (ge p.es k).a.toNat).k = 2 ∧ (ge p.es k).c = (ge p.es k).a := by
 have h1 := (h.edge hk).2.2.2.2.2.2.2
 unfold fitsB fitsN at h1
 rw [if_neg (by omega), if_pos h2] at h1
 simp at h1
 exact ⟨h1.2, h1.1.1, h1.1.2⟩
theorem Ok.ret {p : Pb} (h : Ok p) {k : Nat} (hk : k < p.es.length) (h2 : (ge p.es k).k = 3 ∨ (ge p.es k).k = 4) : (gn p.ns (ge p.es k).a.toNat).k = 3 ∨ (gn p.ns (ge p.es k).a.toNat).k = 4 := by
 have h1 := (h.edge hk).2.2.2.2.2.2.2
 unfold fitsB fitsN at h1
 rw [if_neg (by omega), if_neg (by omega)] at h1
 split at h1
 ·cases h1
 ·omega
structure Clo (p : Pb) (T : Nat → Nat → Nat → Prop) : Prop where
 main : T 0 p.mn.toNat 0
 seed : ∀ s ∈ p.sd, T 0 s.n.toNat 0 → T 0 s.n.toNat s.f.toNat
 flow : ∀ k, k < p.es.length → ((ge p.es k).k = 1 ∨ (ge p.es k).k = 5) → ∀ q ∈ gf p.fl k, ∀ a, T a (ge p.es k).a.toNat q.i.toNat → T a (ge p.es k).b.toNat q.o.toNat
 call : ∀ k, k < p.es.length → (ge p.es k).k = 2 → ∀ q ∈ gf p.fl k, ∀ a, T a (ge p.es k).a.toNat q.i.toNat → T q.o.toNat (ge p.es k).b.toNat q.o.toNat
 ret : ∀ c, c < p.es.length → (ge p.es c).k = 2 → ∀ q ∈ gf p.fl c, ∀ r, r < p.es.length → ((ge p.es r).k = 3 ∨ (ge p.es r).k = 4) → ∀ s ∈ gf p.fl r, (ge p.es c).a = (ge p.es r).c → (gn p.ns (ge p.es c).b.toNat).f = (gn p.ns (ge p.es r).a.toNat).f →
  ∀ a, T a (ge p.es c).a.toNat q.i.toNat → T q.o.toNat (ge p.es r).a.toNat s.i.toNat → T a (ge p.es r).b.toNat s.o.toNat
theorem Clo.all {p : Pb} {T : Nat → Nat → Nat → Prop} (h : Clo p T) {a n d : Nat} (hp : PE p a n d) : T a n d := by
 induction hp with
 | main => exact h.main
 | seed _ hs ih => exact h.seed _ hs ih
 | flow hk hk2 hq _ ih => exact h.flow _ hk hk2 _ hq _ ih
 | call hk hk2 hq _ ih => exact h.call _ hk hk2 _ hq _ ih
 | ret hc hc2 hq hr hr2 hs e1 e2 _ _ ih1 ih2 => exact h.ret _ hc hc2 _ hq _ hr hr2 _ hs e1 e2 _ ih1 ih2
end If
end Go.Df
namespace Go.Df
open Go.RowKit
namespace If
open Sp
structure St where
 h : Nat → Nat → Nat → Bool
 e : Nat → Nat → Nat → Bool
 pd : Nat → List (Nat × Nat)
 q : List Nat
def St.add (s : St) (n a d : Nat) : St :=
 if s.h n a d = true then s else
  ⟨fun n' a' d' => s.h n' a' d' || (n' == n && (a' == a && d' == d)), s.e, fun n' => if n' = n then s.pd n ++ [(a, d)] else s.pd n', if s.pd n = [] then s.q ++ [n] else s.q⟩
def St.ent (s : St) (k b a : Nat) : St := ⟨s.h, fun k' b' a' => s.e k' b' a' || (k' == k && (b' == b && a' == a)), s.pd, s.q⟩
def froms (l : List Pr) (d : Nat) : List Pr := l.filter fun q => q.i == (d : Int)
def elems (F : Nat) (f : Nat → Bool) : List Nat := (List.range F).filter f
def outL (p : Pb) (n : Nat) : List Nat := (List.range p.es.length).filter fun k => (ge p.es k).a == (n : Int)
def callL (p : Pb) (n : Nat) : List Nat := (List.range p.es.length).filter fun k => (ge p.es k).k == 2 && (ge p.es k).b == (n : Int)
def retL (p : Pb) (n : Nat) : List Nat := (List.range p.es.length).filter fun k => ((ge p.es k).k == 3 || (ge p.es k).k == 4) && (ge p.es k).c == (n : Int)
def seedL (p : Pb) (n : Nat) : List Sd := p.sd.filter fun s => s.n == (n : Int)
def spread (p : Pb) (k a d : Nat) (s : St) : St := (froms (gf p.fl k) d).foldl (fun s q => s.add (ge p.es k).b.toNat a q.o.toNat) s
def enterR (p : Pb) (k a b : Nat) (s : St) (r : Nat) : St :=
 if stOf p.ns (ge p.es r).a.toNat = (ge p.es k).b.toNat then (elems p.F.toNat (s.h (ge p.es r).a.toNat b)).foldl (fun s f => spread p r a f s) s else s
def enter1 (p : Pb) (k a b : Nat) (s : St) : St :=
 if (s.add (ge p.es k).b.toNat b b).e k b a = true then s.add (ge p.es k).b.toNat b b else (retL p (ge p.es k).a.toNat).foldl (enterR p k a b) ((s.add (ge p.es k).b.toNat b b).ent k b a)
def enter (p : Pb) (k a d : Nat) (s : St) : St := (froms (gf p.fl k) d).foldl (fun s q => enter1 p k a q.o.toNat s) s
def leaveR (p : Pb) (n d : Nat) (cs : List Nat) (s : St) (r : Nat) : St := if (ge p.es r).a.toNat = n then cs.foldl (fun s a => spread p r a d s) s else s
def leave1 (p : Pb) (n b d : Nat) (s : St) (k : Nat) : St := (retL p (ge p.es k).a.toNat).foldl (leaveR p n d (elems p.F.toNat (s.e k b))) s
def leave (p : Pb) (n b d : Nat) (s : St) : St := (callL p (stOf p.ns n)).foldl (leave1 p n b d) s
def stepE (p : Pb) (a d : Nat) (s : St) (k : Nat) : St := if (ge p.es k).k = 1 ∨ (ge p.es k).k = 5 then spread p k a d s else if (ge p.es k).k = 2 then enter p k a d s else s
def stepA (p : Pb) (n a d : Nat) (s : St) : St := if a = 0 ∧ d = 0 then (seedL p n).foldl (fun s x => s.add n 0 x.f.toNat) s else s
def step (p : Pb) (n a d : Nat) (s : St) : St :=
 if (gn p.ns n).k = 3 ∨ (gn p.ns n).k = 4 then leave p n a d ((outL p n).foldl (stepE p a d) (stepA p n a d s)) else (outL p n).foldl (stepE p a d) (stepA p n a d s)
structure Le (s t : St) : Prop where
 h : ∀ n a d, s.h n a d = true → t.h n a d = true
 e : ∀ k b a, s.e k b a = true → t.e k b a = true
 pd : ∀ n x, x ∈ s.pd n → x ∈ t.pd n
 new : ∀ n a d, t.h n a d = true → s.h n a d = true ∨ (a, d) ∈ t.pd n
 old : ∀ n x, x ∈ t.pd n → x ∈ s.pd n ∨ s.h n x.1 x.2 = false
theorem Le.refl (s : St) : Le s s := ⟨fun _ _ _ h => h, fun _ _ _ h => h, fun _ _ h => h, fun _ _ _ h => .inl h, fun _ _ h => .inl h⟩
theorem Le.trans {s t u : St} (h : Le s t) (g : Le t u) : Le s u := by
 refine ⟨fun n a d x => g.h _ _ _ (h.h _ _ _ x), fun n a d x => g.e _ _ _ (h.e _ _ _ x), fun n x y => g.pd _ _ (h.pd _ _ y), fun n a d x => ?_, fun n x y => ?_⟩
 ·rcases g.new _ _ _ x with y | y
  ·rcases h.new _ _ _ y with z | z
   ·exact .inl z
   ·exact .inr (g.pd _ _ z)
  ·exact .inr y
 ·rcases g.old _ _ y with z | z
  ·exact h.old _ _ z
  ·refine .inr ?_
   cases hh : s.h n x.1 x.2 with
   | false => rfl
   | true => rw [h.h _ _ _ hh] at z; cases z
theorem St.add_le (s : St) (n a d : Nat) : Le s (s.add n a d) := by
 unfold St.add
 split
 ·exact Le.refl s
 ·rename_i h0
  refine ⟨fun n' a' d' h => by simp [h], fun _ _ _ h => h, fun n' x h => ?_, fun n' a' d' h => ?_, fun n' x h => ?_⟩
  ·dsimp only
   split
   ·rename_i e; subst e; simp [h]
   ·exact h
  ·simp at h
   rcases h with h | ⟨rfl, rfl, rfl⟩
   ·exact .inl h
   ·right; simp
  ·dsimp only at h
   split at h
   ·rename_i e
    subst e
    simp at h
    rcases h with h | rfl
    ·exact .inl h
    ·right; simpa using h0
   ·exact .inl h
theorem St.add_has (s : St) (n a d : Nat) : (s.add n a d).h n a d = true := by
 unfold St.add
 split
 ·assumption
 ·simp
theorem St.ent_le (s : St) (k b a : Nat) : Le s (s.ent k b a) := ⟨fun _ _ _ h => h, fun k' b' a' h => by simp [St.ent, h], fun _ _ h => h, fun _ _ _ h => .inl h, fun _ _ h => .inl h⟩
theorem fold_le {α : Type} {f : St → α → St} (hf : ∀ s x, Le s (f s x)) : ∀ (l : List α) (s : St), Le s (l.foldl f s)
 | [], s => Le.refl s
 | x :: l, s => (hf s x).trans (fold_le hf l (f s x))
theorem fold_has {α : Type} {f : St → α → St} (hf : ∀ s x, Le s (f s x)) {Q : St → Prop} (hQ : ∀ s t, Le s t → Q s → Q t) {x : α} : ∀ (l : List α) (s : St), x ∈ l → (∀ t, Le s t → Q (f t x)) → Q (l.foldl f s)
 | y :: l, s, hx, h => by
  rcases List.mem_cons.1 hx with rfl | hx
  ·exact hQ _ _ (fold_le hf l _) (h s (Le.refl s))
  ·exact fold_has hf hQ l _ hx (fun t ht => h t ((hf s y).trans ht))
theorem spread_le (p : Pb) (k a d : Nat) (s : St) : Le s (spread p k a d s) := fold_le (fun s _q => s.add_le _ _ _) _ s
theorem enterR_le (p : Pb) (k a b : Nat) (s : St) (r : Nat) : Le s (enterR p k a b s r) := by
 unfold enterR
 split
 ·exact fold_le (fun s f => spread_le p r a f s) _ s
 ·exact Le.refl s
theorem enter1_le (p : Pb) (k a b : Nat) (s : St) : Le s (enter1 p k a b s) := by
 unfold enter1
 split
 ·exact s.add_le _ _ _
 ·exact ((s.add_le _ _ _).trans (St.ent_le _ _ _ _)).trans (fold_le (enterR_le p k a b) _ _)
theorem enter_le (p : Pb) (k a d : Nat) (s : St) : Le s (enter p k a d s) := fold_le (fun s _q => enter1_le p k a _ s) _ s
theorem leaveR_le (p : Pb) (n d : Nat) (cs : List Nat) (s : St) (r : Nat) : Le s (leaveR p n d cs s r) := by
 unfold leaveR
 split
 ·exact fold_le (fun s a => spread_le p r a d s) _ s
 ·exact Le.refl s
theorem leave1_le (p : Pb) (n b d : Nat) (s : St) (k : Nat) : Le s (leave1 p n b d s k) := fold_le (leaveR_le p n d _) _ s
theorem leave_le (p : Pb) (n b d : Nat) (s : St) : Le s (leave p n b d s) := fold_le (leave1_le p n b d) _ s
theorem stepE_le (p : Pb) (a d : Nat) (s : St) (k : Nat) : Le s (stepE p a d s k) := by
 unfold stepE
 split
 ·exact spread_le p k a d s
 ·split
  ·exact enter_le p k a d s
  ·exact Le.refl s
theorem stepA_le (p : Pb) (n a d : Nat) (s : St) : Le s (stepA p n a d s) := by
 unfold stepA
 split
 ·exact fold_le (fun s x => s.add_le _ _ _) _ s
 ·exact Le.refl s
theorem step_le (p : Pb) (n a d : Nat) (s : St) : Le s (step p n a d s) := by
 have h := (stepA_le p n a d s).trans (fold_le (stepE_le p a d) (outL p n) _)
 unfold step
 split
 ·exact h.trans (leave_le p n a d _)
 ·exact h
theorem mem_froms {l : List Pr} {d : Nat} {q : Pr} : q ∈ froms l d ↔ q ∈ l ∧ q.i = d := by simp [froms]
theorem spread_has {p : Pb} {k a d : Nat} {q : Pr} (hq : q ∈ gf p.fl k) (hd : q.i = d) (s : St) : (spread p k a d s).h (ge p.es k).b.toNat a q.o.toNat = true :=
 fold_has (fun s _q => s.add_le _ _ _) (Q := fun t => t.h (ge p.es k).b.toNat a q.o.toNat = true) (fun _ _ h hq => h.h _ _ _ hq) _ s (mem_froms.2 ⟨hq, hd⟩) (fun t _ => St.add_has t _ _ _)
structure Snd (p : Pb) (s : St) : Prop where
 h : ∀ n a d, s.h n a d = true → PE p a n d
 e : ∀ k b a, s.e k b a = true → k < p.es.length ∧ (ge p.es k).k = 2 ∧ ∃ q ∈ gf p.fl k, q.o.toNat = b ∧ PE p a (ge p.es k).a.toNat q.i.toNat
theorem Snd.add {p : Pb} {s : St} (h : Snd p s) {n a d : Nat} (hp : PE p a n d) : Snd p (s.add n a d) := by
 unfold St.add
 split
 ·exact h
 ·refine ⟨fun n' a' d' h' => ?_, h.e⟩
  simp at h'
  rcases h' with h' | ⟨rfl, rfl, rfl⟩
  ·exact h.h _ _ _ h'
  ·exact hp
theorem fold_snd {p : Pb} {α : Type} {f : St → α → St} : ∀ (l : List α) (s : St), (∀ x ∈ l, ∀ t, Snd p t → Snd p (f t x)) → Snd p s → Snd p (l.foldl f s)
 | [], _, _, h => h
 | x :: l, s, hf, h => fold_snd l _ (fun y hy => hf y (by simp [hy])) (hf x (by simp) s h)
theorem outL_mem {p : Pb} {n k : Nat} : k ∈ outL p n ↔ k < p.es.length ∧ (ge p.es k).a = n := by simp [outL]
theorem callL_mem {p : Pb} {n k : Nat} : k ∈ callL p n ↔ k < p.es.length ∧ (ge p.es k).k = 2 ∧ (ge p.es k).b = n := by simp [callL]
theorem retL_mem {p : Pb} {n k : Nat} : k ∈ retL p n ↔ k < p.es.length ∧ ((ge p.es k).k = 3 ∨ (ge p.es k).k = 4) ∧ (ge p.es k).c = n := by simp [retL]
theorem seedL_mem {p : Pb} {n : Nat} {s : Sd} : s ∈ seedL p n ↔ s ∈ p.sd ∧ s.n = n := by simp [seedL]
theorem elems_mem {F : Nat} {f : Nat → Bool} {x : Nat} : x ∈ elems F f ↔ x < F ∧ f x = true := by simp [elems]
theorem spread_flow {p : Pb} (_ho : Ok p) {k a d : Nat} (hk : k < p.es.length) (h1 : (ge p.es k).k = 1 ∨ (ge p.es k).k = 5) (hp : PE p a (ge p.es k).a.toNat d) {s : St} (h : Snd p s) : Snd p (spread p k a d s) := by
 refine fold_snd _ s (fun q hq t ht => ht.add ?_) h
 obtain ⟨h2, h3⟩ := mem_froms.1 hq
 exact .flow hk h1 h2 (by rw [h3, Int.toNat_natCast]; exact hp)
theorem spread_ret {p : Pb} (ho : Ok p) {k r a b d : Nat} (hr : r < p.es.length) (hr2 : (ge p.es r).k = 3 ∨ (ge p.es r).k = 4) (he : k < p.es.length ∧ (ge p.es k).k = 2 ∧ ∃ q ∈ gf p.fl k, q.o.toNat = b ∧ PE p a (ge p.es k).a.toNat q.i.toNat)
  (hc : (ge p.es r).c = (ge p.es k).a) (hf : stOf p.ns (ge p.es r).a.toNat = (ge p.es k).b.toNat) (hp : PE p b (ge p.es r).a.toNat d) {s : St} (h : Snd p s) : Snd p (spread p r a d s) := by
 obtain ⟨hk, hk2, q0, hq0, hb, hp0⟩ := he
 have h1 := ho.edge hr
 have h2 := ho.edge hk
 have h3 := (ho.nd.start_iff (x := (ge p.es r).a.toNat) (s := (ge p.es k).b.toNat) (by omega) (by omega) (ho.call hk hk2).1).1 hf
 refine fold_snd _ s (fun q hq t ht => ht.add ?_) h
 obtain ⟨h4, h5⟩ := mem_froms.1 hq
 exact .ret hk hk2 hq0 hr hr2 h4 hc.symm h3 hp0 (by rw [h5, Int.toNat_natCast, hb]; exact hp)
theorem enter_snd {p : Pb} (ho : Ok p) {k a d : Nat} (hk : k < p.es.length) (hk2 : (ge p.es k).k = 2) (hp : PE p a (ge p.es k).a.toNat d) {s : St} (h : Snd p s) : Snd p (enter p k a d s) := by
 refine fold_snd _ s (fun q hq t ht => ?_) h
 obtain ⟨h2, h3⟩ := mem_froms.1 hq
 have hp' : PE p a (ge p.es k).a.toNat q.i.toNat := by rw [h3, Int.toNat_natCast]; exact hp
 have h4 := ht.add (PE.call hk hk2 h2 hp')
 unfold enter1
 split
 ·exact h4
 ·have he : k < p.es.length ∧ (ge p.es k).k = 2 ∧ ∃ q' ∈ gf p.fl k, q'.o.toNat = q.o.toNat ∧ PE p a (ge p.es k).a.toNat q'.i.toNat := ⟨hk, hk2, q, h2, rfl, hp'⟩
  refine fold_snd _ _ (fun r hr t ht => ?_) ⟨h4.h, fun k' b' a' h' => ?_⟩
  ·obtain ⟨r1, r2, r3⟩ := retL_mem.1 hr
   unfold enterR
   split
   ·rename_i hst
    refine fold_snd _ _ (fun f hf u hu => ?_) ht
    refine spread_ret ho r1 r2 he ?_ hst (ht.h _ _ _ (elems_mem.1 hf).2) hu
    have := ho.edge hk
    omega
   ·exact ht
  ·simp [St.ent] at h'
   rcases h' with h' | ⟨rfl, rfl, rfl⟩
   ·exact h4.e _ _ _ h'
   ·exact he
theorem leave_snd {p : Pb} (ho : Ok p) {n b d : Nat} (_hn : n < p.ns.length) (hp : PE p b n d) {s : St} (h : Snd p s) : Snd p (leave p n b d s) := by
 refine fold_snd _ s (fun k hk t ht => ?_) h
 obtain ⟨k1, k2, k3⟩ := callL_mem.1 hk
 refine fold_snd _ t (fun r hr u hu => ?_) ht
 obtain ⟨r1, r2, r3⟩ := retL_mem.1 hr
 unfold leaveR
 split
 ·rename_i hrn
  refine fold_snd _ u (fun a ha v hv => ?_) hu
  have := ho.edge k1
  refine spread_ret ho r1 r2 (ht.e _ _ _ (elems_mem.1 ha).2) (by omega) (by rw [hrn]; omega) (by rw [hrn]; exact hp) hv
 ·exact hu
theorem step_snd {p : Pb} (ho : Ok p) {n a d : Nat} (hp : PE p a n d) {s : St} (h : Snd p s) : Snd p (step p n a d s) := by
 have hn := (hp.rng ho).1
 have h1 : Snd p (stepA p n a d s) := by
  unfold stepA
  split
  ·rename_i h0
   obtain ⟨rfl, rfl⟩ := h0
   refine fold_snd _ s (fun x hx t ht => ht.add ?_) h
   obtain ⟨h2, h3⟩ := seedL_mem.1 hx
   have e : x.n.toNat = n := by omega
   have := PE.seed (p := p) (s := x) (by rw [e]; exact hp) h2
   rw [e] at this
   exact this
  ·exact h
 have h2 : Snd p ((outL p n).foldl (stepE p a d) (stepA p n a d s)) := by
  refine fold_snd _ _ (fun k hk t ht => ?_) h1
  obtain ⟨k1, k2⟩ := outL_mem.1 hk
  have hp' : PE p a (ge p.es k).a.toNat d := by rw [k2, Int.toNat_natCast]; exact hp
  unfold stepE
  split
  ·rename_i h3; exact spread_flow ho k1 h3 hp' ht
  ·split
   ·rename_i h3; exact enter_snd ho k1 h3 hp' ht
   ·exact ht
 unfold step
 split
 ·exact leave_snd ho hn hp h2
 ·exact h2
structure Cp (p : Pb) (s : St) (D : Nat → Nat → Nat → Prop) : Prop where
 seed : ∀ n, D n 0 0 → ∀ x ∈ p.sd, x.n = n → s.h n 0 x.f.toNat = true
 flow : ∀ n a d, D n a d → ∀ k, k < p.es.length → ((ge p.es k).k = 1 ∨ (ge p.es k).k = 5) → (ge p.es k).a = n → ∀ q ∈ gf p.fl k, q.i = d → s.h (ge p.es k).b.toNat a q.o.toNat = true
 call : ∀ n a d, D n a d → ∀ k, k < p.es.length → (ge p.es k).k = 2 → (ge p.es k).a = n → ∀ q ∈ gf p.fl k, q.i = d → s.h (ge p.es k).b.toNat q.o.toNat q.o.toNat = true ∧ s.e k q.o.toNat a = true
 ret : ∀ k b a, s.e k b a = true → ∀ r, r < p.es.length → ((ge p.es r).k = 3 ∨ (ge p.es r).k = 4) → (ge p.es r).c = (ge p.es k).a → stOf p.ns (ge p.es r).a.toNat = (ge p.es k).b.toNat → ∀ d, D (ge p.es r).a.toNat b d → ∀ q ∈ gf p.fl r, q.i = d → s.h (ge p.es r).b.toNat a q.o.toNat = true
def Dn (s : St) (n : Nat) (rest : List (Nat × Nat)) (n' a d : Nat) : Prop := s.h n' a d = true ∧ (a, d) ∉ s.pd n' ∧ ¬ (n' = n ∧ (a, d) ∈ rest)
def CpR (p : Pb) (s : St) (D : Nat → Nat → Nat → Prop) : Prop := ∀ k b a, s.e k b a = true → ∀ r, r < p.es.length → ((ge p.es r).k = 3 ∨ (ge p.es r).k = 4) → (ge p.es r).c = (ge p.es k).a → stOf p.ns (ge p.es r).a.toNat = (ge p.es k).b.toNat → ∀ d, D (ge p.es r).a.toNat b d → ∀ q ∈ gf p.fl r, q.i = d → s.h (ge p.es r).b.toNat a q.o.toNat = true
theorem CpR.mono {p : Pb} {s t : St} {D : Nat → Nat → Nat → Prop} (h : CpR p s D) (hl : Le s t) (he : t.e = s.e) : CpR p t D := fun k b a hk r r1 r2 r3 r4 d hd q hq hi => hl.h _ _ _ (h k b a (by rw [← he]; exact hk) r r1 r2 r3 r4 d hd q hq hi)
theorem fold_e {α : Type} {f : St → α → St} (hf : ∀ s x, (f s x).e = s.e) : ∀ (l : List α) (s : St), (l.foldl f s).e = s.e
 | [], _ => rfl
 | x :: l, s => (fold_e hf l _).trans (hf s x)
theorem St.add_e (s : St) (n a d : Nat) : (s.add n a d).e = s.e := by unfold St.add; split <;> rfl
theorem spread_e (p : Pb) (k a d : Nat) (s : St) : (spread p k a d s).e = s.e := fold_e (fun s _q => s.add_e _ _ _) _ s
theorem enterR_e (p : Pb) (k a b : Nat) (s : St) (r : Nat) : (enterR p k a b s r).e = s.e := by
 unfold enterR
 split
 ·exact fold_e (fun s f => spread_e p r a f s) _ s
 ·rfl
theorem leave1_e (p : Pb) (n b d : Nat) (s : St) (k : Nat) : (leave1 p n b d s k).e = s.e := by
 refine fold_e (fun s r => ?_) _ s
 unfold leaveR
 split
 ·exact fold_e (fun s a => spread_e p r a d s) _ s
 ·rfl
theorem enter1_ret {p : Pb} {F : Nat} (hF : p.F.toNat = F) {k a b : Nat} {s : St} {D : Nat → Nat → Nat → Prop} (hk : k < p.es.length) (ho : Ok p) (hD : ∀ n a d, D n a d → s.h n a d = true ∧ d < F) (h : CpR p s D) : CpR p (enter1 p k a b s) D := by
 have hl := s.add_le (ge p.es k).b.toNat b b
 unfold enter1
 split
 ·exact h.mono hl (St.add_e _ _ _ _)
 ·have hl2 := hl.trans (St.ent_le (s.add (ge p.es k).b.toNat b b) k b a)
  have hl3 := hl2.trans (fold_le (enterR_le p k a b) (retL p (ge p.es k).a.toNat) _)
  intro k' b' a' he r r1 r2 r3 r4 d hd q hq hi
  rw [fold_e (enterR_e p k a b)] at he
  have he' : s.e k' b' a' = true ∨ (k' = k ∧ b' = b ∧ a' = a) := by
   simp [St.ent, St.add_e] at he
   exact he
  rcases he' with he' | ⟨rfl, rfl, rfl⟩
  ·exact hl3.h _ _ _ (h k' b' a' he' r r1 r2 r3 r4 d hd q hq hi)
  ·have h1 := ho.edge hk
   refine fold_has (enterR_le p k' a' b') (Q := fun t => t.h (ge p.es r).b.toNat a' q.o.toNat = true) (fun _ _ h hq => h.h _ _ _ hq) (x := r) _ _ (retL_mem.2 ⟨r1, r2, by omega⟩) (fun t ht => ?_)
   unfold enterR
   rw [if_pos r4]
   refine fold_has (fun s f => spread_le p r a' f s) (Q := fun t => t.h (ge p.es r).b.toNat a' q.o.toNat = true) (fun _ _ h hq => h.h _ _ _ hq) (x := d) _ _ (elems_mem.2 ⟨?_, ht.h _ _ _ (hl2.h _ _ _ (hD _ _ _ hd).1)⟩) (fun u _ => spread_has hq hi u)
   rw [hF]
   exact (hD _ _ _ hd).2
theorem fold_keep {α : Type} {f : St → α → St} {Q : St → Prop} : ∀ (l : List α) (s : St), (∀ x ∈ l, ∀ t, Q t → Q (f t x)) → Q s → Q (l.foldl f s)
 | [], _, _, h => h
 | x :: l, s, hf, h => fold_keep l _ (fun y hy => hf y (by simp [hy])) (hf x (by simp) s h)
theorem step_ent {p : Pb} {n a d : Nat} (haF : (a : Int) < p.F) {s s1 s2 : St} (hS : ∀ k b a, s.e k b a = true → a < p.F.toNat ∧ k < p.es.length ∧ (ge p.es k).k = 2) (e1 : stepA p n a d s = s1) (e2 : (outL p n).foldl (stepE p a d) s1 = s2) :
  ∀ k b a, s2.e k b a = true → a < p.F.toNat ∧ k < p.es.length ∧ (ge p.es k).k = 2 := by
 have s1e : s1.e = s.e := by
  rw [← e1]
  unfold stepA
  split
  ·exact fold_e (fun s x => s.add_e _ _ _) _ s
  ·rfl
 rw [← e2]
 refine fold_keep (Q := fun t => ∀ k b a, t.e k b a = true → a < p.F.toNat ∧ k < p.es.length ∧ (ge p.es k).k = 2) _ s1 (fun k' hk' t ht => ?_) (by rw [s1e]; exact hS)
 unfold stepE
 split
 ·rw [spread_e]; exact ht
 ·split
  ·rename_i hk2'
   refine fold_keep (Q := fun t => ∀ k b a, t.e k b a = true → a < p.F.toNat ∧ k < p.es.length ∧ (ge p.es k).k = 2) _ t (fun q' _ u hu => ?_) ht
   unfold enter1
   split
   ·rw [St.add_e]; exact hu
   ·rw [fold_e (enterR_e p k' a _)]
    intro k'' b'' a'' h''
    simp [St.ent, St.add_e] at h''
    rcases h'' with h'' | ⟨rfl, -, rfl⟩
    ·exact hu _ _ _ h''
    ·exact ⟨by omega, (outL_mem.1 hk').1, hk2'⟩
  ·exact ht
theorem step_cp {p : Pb} (ho : Ok p) {n a d : Nat} (hn : n < p.ns.length) (hdF : (d : Int) < p.F) (haF : (a : Int) < p.F) {s : St} {D : Nat → Nat → Nat → Prop} (hD : ∀ n a d, D n a d → s.h n a d = true ∧ d < p.F.toNat) (hS : ∀ k b a, s.e k b a = true → a < p.F.toNat ∧ k < p.es.length ∧ (ge p.es k).k = 2) (h : Cp p s D) (D' : Nat → Nat → Nat → Prop) (hD' : ∀ x y z, D' x y z → D x y z ∨ (x = n ∧ y = a ∧ z = d)) :
   Cp p (step p n a d s) D' := by
 obtain ⟨s1, e1⟩ : ∃ s1, stepA p n a d s = s1 := ⟨_, rfl⟩
 obtain ⟨s2, e2⟩ : ∃ s2, (outL p n).foldl (stepE p a d) s1 = s2 := ⟨_, rfl⟩
 obtain ⟨s3, e3⟩ : ∃ s3, step p n a d s = s3 := ⟨_, rfl⟩
 have l1 : Le s s1 := by rw [← e1]; exact stepA_le p n a d s
 have l2 : Le s1 s2 := by rw [← e2]; exact fold_le (stepE_le p a d) _ _
 have l3 : Le s2 s3 := by
   rw [← e3, ← e2, ← e1]
   unfold step
   split
   · exact leave_le p n a d _
   · exact Le.refl _
 rw [e3]
 have l13 := l1.trans (l2.trans l3)
 have r2 : CpR p s2 D := by
   have r1 : CpR p s1 D := by
     refine CpR.mono h.ret l1 ?_
     rw [← e1]
     unfold stepA
     split
     · exact fold_e (fun s x => s.add_e _ _ _) _ s
     · rfl
   have hd1 : ∀ n a d, D n a d → s1.h n a d = true ∧ d < p.F.toNat := fun n a d hd => ⟨l1.h _ _ _ (hD _ _ _ hd).1, (hD _ _ _ hd).2⟩
   rw [← e2]
   refine (fold_keep (Q := fun t => Le s1 t ∧ CpR p t D) _ s1 (fun k hk t ht => ?_) ⟨Le.refl _, r1⟩).2
   obtain ⟨k1, k2⟩ := outL_mem.1 hk
   refine ⟨ht.1.trans (stepE_le p a d t k), ?_⟩
   unfold stepE
   split
   · exact ht.2.mono (spread_le p k a d t) (spread_e p k a d t)
   · split
     · refine (fold_keep (Q := fun t => Le s1 t ∧ CpR p t D) _ t (fun q _ u hu => ?_) ht).2
       exact ⟨hu.1.trans (enter1_le p k a _ u), enter1_ret rfl k1 ho (fun n a d hd => ⟨hu.1.h _ _ _ (hd1 _ _ _ hd).1, (hd1 _ _ _ hd).2⟩) hu.2⟩
     · exact ht.2
 have e23 : s3.e = s2.e := by
   rw [← e3, ← e2, ← e1]
   unfold step
   split
   · exact fold_e (leave1_e p n a d) _ _
   · rfl
 refine ⟨fun m hm x hx hxm => ?_, fun m b c hm k k1 k2 k3 q hq hi => ?_, fun m b c hm k k1 k2 k3 q hq hi => ?_, fun k b c hk r r1 r2' r3 r4 f hf q hq hi => ?_⟩
 · rcases hD' _ _ _ hm with hm | ⟨rfl, rfl, rfl⟩
   · exact l13.h _ _ _ (h.seed m hm x hx hxm)
   · refine (l2.trans l3).h _ _ _ ?_
     rw [← e1]
     unfold stepA
     rw [if_pos ⟨rfl, rfl⟩]
     exact fold_has (fun s x => s.add_le _ _ _) (Q := fun t => t.h m 0 x.f.toNat = true) (fun _ _ h hq => h.h _ _ _ hq) (x := x) _ s (seedL_mem.2 ⟨hx, hxm⟩) (fun t _ => St.add_has t _ _ _)
 · rcases hD' _ _ _ hm with hm | ⟨rfl, rfl, rfl⟩
   · exact l13.h _ _ _ (h.flow m b c hm k k1 k2 k3 q hq hi)
   · refine l3.h _ _ _ ?_
     rw [← e2]
     refine fold_has (stepE_le p b c) (Q := fun t => t.h (ge p.es k).b.toNat b q.o.toNat = true) (fun _ _ h hq => h.h _ _ _ hq) (x := k) _ s1 (outL_mem.2 ⟨k1, k3⟩) (fun t _ => ?_)
     unfold stepE
     rw [if_pos k2]
     exact spread_has hq hi t
 · rcases hD' _ _ _ hm with hm | ⟨rfl, rfl, rfl⟩
   · exact ⟨l13.h _ _ _ (h.call m b c hm k k1 k2 k3 q hq hi).1, l13.e _ _ _ (h.call m b c hm k k1 k2 k3 q hq hi).2⟩
   · have : s2.h (ge p.es k).b.toNat q.o.toNat q.o.toNat = true ∧ s2.e k q.o.toNat b = true := by
       rw [← e2]
       refine fold_has (stepE_le p b c) (Q := fun t => t.h (ge p.es k).b.toNat q.o.toNat q.o.toNat = true ∧ t.e k q.o.toNat b = true) (fun _ _ h hq => ⟨h.h _ _ _ hq.1, h.e _ _ _ hq.2⟩) (x := k) _ s1 (outL_mem.2 ⟨k1, k3⟩) (fun t _ => ?_)
       unfold stepE
       rw [if_neg (by omega), if_pos k2]
       refine fold_has (fun s q => enter1_le p k b _ s) (Q := fun t => t.h (ge p.es k).b.toNat q.o.toNat q.o.toNat = true ∧ t.e k q.o.toNat b = true) (fun _ _ h hq => ⟨h.h _ _ _ hq.1, h.e _ _ _ hq.2⟩) (x := q) _ t (mem_froms.2 ⟨hq, hi⟩) (fun u _ => ?_)
       unfold enter1
       split
       · rename_i h9; exact ⟨St.add_has _ _ _ _, h9⟩
       · have l9 := fold_le (enterR_le p k b q.o.toNat) (retL p (ge p.es k).a.toNat) ((u.add (ge p.es k).b.toNat q.o.toNat q.o.toNat).ent k q.o.toNat b)
         exact ⟨l9.h _ _ _ (St.add_has _ _ _ _), l9.e _ _ _ (by simp [St.ent])⟩
     exact ⟨l3.h _ _ _ this.1, l3.e _ _ _ this.2⟩
 · rw [e23] at hk
   rcases hD' _ _ _ hf with hf | ⟨h5, h6, h7⟩
   · exact l3.h _ _ _ (r2 k b c hk r r1 r2' r3 r4 f hf q hq hi)
   · -- the edge itself: leave has passed it on
     subst h6 h7
     have hrk := ho.ret r1 r2'
     rw [h5] at hrk r4
     have hc : c < p.F.toNat ∧ k < p.es.length ∧ (ge p.es k).k = 2 := step_ent (s := s) haF hS e1 e2 _ _ _ hk
     have hke : k < p.es.length ∧ (ge p.es k).k = 2 ∧ 0 ≤ (ge p.es k).b ∧ 0 ≤ (ge p.es k).a := ⟨hc.2.1, hc.2.2, (ho.edge hc.2.1).2.2.1, (ho.edge hc.2.1).1⟩
     have hc := hc.1
     rw [← e3]
     unfold step
     rw [if_pos hrk, e1, e2]
     refine fold_has (leave1_le p n b f) (Q := fun t => t.h (ge p.es r).b.toNat c q.o.toNat = true) (fun _ _ h hq => h.h _ _ _ hq) (x := k) _ s2 (callL_mem.2 ⟨hke.1, hke.2.1, by omega⟩) (fun t ht => ?_)
     refine fold_has (leaveR_le p n f _) (Q := fun t => t.h (ge p.es r).b.toNat c q.o.toNat = true) (fun _ _ h hq => h.h _ _ _ hq) (x := r) _ t (retL_mem.2 ⟨r1, r2', by omega⟩) (fun u _ => ?_)
     unfold leaveR
     rw [if_pos h5]
     refine fold_has (fun s a => spread_le p r a f s) (Q := fun t => t.h (ge p.es r).b.toNat c q.o.toNat = true) (fun _ _ h hq => h.h _ _ _ hq) (x := c) _ u (elems_mem.2 ⟨hc, ?_⟩) (fun v _ => spread_has hq hi v)
     exact ht.e _ _ _ hk
end If
end Go.Df
