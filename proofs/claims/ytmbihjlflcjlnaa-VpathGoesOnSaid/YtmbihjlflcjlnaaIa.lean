/- IFDS problems in plain words: their error, their path edges. -/
import Derived.Test.YtmbihjlflcjlnaaSh
namespace Go.Df
open Go.RowKit
namespace If
open Sp
/-- A pair of facts; a seed. -/
structure Pr where
  i : Int
  o : Int
deriving DecidableEq
structure Sd where
  n : Int
  f : Int
deriving DecidableEq
def gp (l : List Pr) (i : Nat) : Pr := l.getD i ⟨0, 0⟩
def gd (l : List Sd) (i : Nat) : Sd := l.getD i ⟨0, 0⟩
def gf (ls : List (List Pr)) (i : Nat) : List Pr := ls.getD i []
theorem gp_lt {l : List Pr} {i : Nat} (h : i < l.length) : gp l i = l[i] := by simp [gp, h]
theorem gd_lt {l : List Sd} {i : Nat} (h : i < l.length) : gd l i = l[i] := by simp [gd, h]
theorem gf_lt {l : List (List Pr)} {i : Nat} (h : i < l.length) : gf l i = l[i] := by simp [gf, h]
theorem gp_mem {l : List Pr} {i : Nat} (h : i < l.length) : gp l i ∈ l := by rw [gp_lt h]; exact List.getElem_mem h
theorem gd_mem {l : List Sd} {i : Nat} (h : i < l.length) : gd l i ∈ l := by rw [gd_lt h]; exact List.getElem_mem h
theorem mem_gp {l : List Pr} {q : Pr} (h : q ∈ l) : ∃ i, i < l.length ∧ gp l i = q := by
  obtain ⟨i, hi, rfl⟩ := List.getElem_of_mem h
  exact ⟨i, hi, gp_lt hi⟩
theorem mem_gd {l : List Sd} {q : Sd} (h : q ∈ l) : ∃ i, i < l.length ∧ gd l i = q := by
  obtain ⟨i, hi, rfl⟩ := List.getElem_of_mem h
  exact ⟨i, hi, gd_lt hi⟩
def lessR (a b : Pr) : Bool := if a.i ≠ b.i then decide (a.i < b.i) else decide (a.o < b.o)
def lessD (a b : Sd) : Bool := if a.n ≠ b.n then decide (a.n < b.n) else decide (a.f < b.f)
theorem ordR_ge (a b : Pr) : decide (0 ≤ orL [cmpI a.i b.i, cmpI a.o b.o]) = !lessR a b := by
  unfold lessR
  rw [or_cmp, or_last]
  split <;> rfl
theorem ordD_ge (a b : Sd) : decide (0 ≤ orL [cmpI a.n b.n, cmpI a.f b.f]) = !lessD a b := by
  unfold lessD
  rw [or_cmp, or_last]
  split <;> rfl
/-- The error of a pair, of a flow function, of a seed, of a problem. -/
def prErr (F : Int) (l : List Pr) (j : Nat) : Int :=
  if (gp l j).i < 0 ∨ F ≤ (gp l j).i ∨ (gp l j).o < 0 ∨ F ≤ (gp l j).o then 4 else if 0 < j ∧ lessR (gp l (j - 1)) (gp l j) = false then 13 else 0
def flErr (F : Int) (l : List Pr) : Int :=
  if F < 1 ∨ 1024 < F then 4 else if 8192 < l.length then 3 else if fe (prErr F l) 0 l.length ≠ 0 then fe (prErr F l) 0 l.length else if l.length = 0 ∨ gp l 0 ≠ ⟨0, 0⟩ then 1 else 0
def sdErr (N : Nat) (F : Int) (l : List Sd) (j : Nat) : Int :=
  if (gd l j).n < 0 ∨ (N : Int) ≤ (gd l j).n ∨ (gd l j).f < 1 ∨ F ≤ (gd l j).f then 4 else if 0 < j ∧ lessD (gd l (j - 1)) (gd l j) = false then 13 else 0
/-- A problem. -/
structure Pb where
  ns : List Nd
  es : List Ed
  mn : Int
  F : Int
  fl : List (List Pr)
  sd : List Sd
def pbErr (p : Pb) : Int :=
  if superErr p.ns p.es p.mn ≠ 0 then superErr p.ns p.es p.mn else if p.F < 1 ∨ 1024 < p.F then 4 else if p.fl.length ≠ p.es.length then 20
  else if fe (fun i => flErr p.F (gf p.fl i)) 0 p.fl.length ≠ 0 then fe (fun i => flErr p.F (gf p.fl i)) 0 p.fl.length else fe (sdErr p.ns.length p.F p.sd) 0 p.sd.length
theorem fl_hit {F : Int} {l : List Pr} {e : Int} {j : Nat} (h0 : 1 ≤ F) (h2 : F ≤ 1024) (h1 : l.length ≤ 8192) (h : ∀ x, x < j → prErr F l x = 0) (hj : j < l.length) (he : prErr F l j = e) (hn : e ≠ 0) : flErr F l = e := by
  unfold flErr
  rw [if_neg (by omega), if_neg (by omega), fe_hit h hj he hn, if_pos hn]
theorem fl_end {F : Int} {l : List Pr} (h0 : 1 ≤ F) (h2 : F ≤ 1024) (h1 : l.length ≤ 8192) (h : ∀ x, x < l.length → prErr F l x = 0) : flErr F l = if l.length = 0 ∨ gp l 0 ≠ ⟨0, 0⟩ then 1 else 0 := by
  unfold flErr
  rw [if_neg (by omega), if_neg (by omega), fe_ok l.length 0 (fun i _ hi => h i (by omega)), if_neg (by simp)]
theorem pb_flow {p : Pb} {e : Int} {j : Nat} (h1 : superErr p.ns p.es p.mn = 0) (h2 : ¬ (p.F < 1 ∨ 1024 < p.F)) (h3 : p.fl.length = p.es.length)
    (h : ∀ x, x < j → flErr p.F (gf p.fl x) = 0) (hj : j < p.fl.length) (he : flErr p.F (gf p.fl j) = e) (h0 : e ≠ 0) : pbErr p = e := by
  unfold pbErr
  rw [if_neg (not_not_intro h1), if_neg h2, if_neg (not_not_intro h3), fe_hit h hj he h0, if_pos h0]
theorem pb_seed {p : Pb} {e : Int} {j : Nat} (h1 : superErr p.ns p.es p.mn = 0) (h2 : ¬ (p.F < 1 ∨ 1024 < p.F)) (h3 : p.fl.length = p.es.length)
    (h4 : ∀ x, x < p.fl.length → flErr p.F (gf p.fl x) = 0) (h : ∀ x, x < j → sdErr p.ns.length p.F p.sd x = 0) (hj : j < p.sd.length) (he : sdErr p.ns.length p.F p.sd j = e) (h0 : e ≠ 0) : pbErr p = e := by
  unfold pbErr
  rw [if_neg (not_not_intro h1), if_neg h2, if_neg (not_not_intro h3), fe_ok p.fl.length 0 (fun i _ hi => h4 i (by omega)), if_neg (by simp), fe_hit h hj he h0]
theorem pb_ok {p : Pb} (h1 : superErr p.ns p.es p.mn = 0) (h2 : ¬ (p.F < 1 ∨ 1024 < p.F)) (h3 : p.fl.length = p.es.length)
    (h4 : ∀ x, x < p.fl.length → flErr p.F (gf p.fl x) = 0) (h : ∀ x, x < p.sd.length → sdErr p.ns.length p.F p.sd x = 0) : pbErr p = 0 := by
  unfold pbErr
  rw [if_neg (not_not_intro h1), if_neg h2, if_neg (not_not_intro h3), fe_ok p.fl.length 0 (fun i _ hi => h4 i (by omega)), if_neg (by simp), fe_ok p.sd.length 0 (fun i _ hi => h i (by omega))]
theorem lessR_trans {a b c : Pr} (h1 : lessR a b = true) (h2 : lessR b c = true) : lessR a c = true := by
  unfold lessR at *
  grind
/-- Pairs without an error ascend. -/
theorem pr_asc {F : Int} {l : List Pr} (h : ∀ x, x < l.length → prErr F l x = 0) {i : Nat} : ∀ (d : Nat), i + d + 1 < l.length → lessR (gp l i) (gp l (i + d + 1)) = true := by
  have adj : ∀ j, j + 1 < l.length → lessR (gp l j) (gp l (j + 1)) = true := fun j hj => by
    have := h (j + 1) hj
    unfold prErr at this
    split at this
    · cases this
    · split at this
      · cases this
      · rename_i hv
        cases hh : lessR (gp l j) (gp l (j + 1)) with
        | true => rfl
        | false => exact absurd ⟨Nat.succ_pos _, hh⟩ hv
  intro d
  induction d with
  | zero => intro hi; exact adj i hi
  | succ d ih => intro hi; exact lessR_trans (ih (by omega)) (adj (i + d + 1) (by omega))
theorem pr_in {F : Int} {l : List Pr} {j : Nat} (h : prErr F l j = 0) : 0 ≤ (gp l j).i ∧ (gp l j).i < F ∧ 0 ≤ (gp l j).o ∧ (gp l j).o < F := by
  unfold prErr at h
  split at h
  · cases h
  · omega
/-- The pair of Zero and Zero can only stand first. -/
theorem pr_first {F : Int} {l : List Pr} (h : ∀ x, x < l.length → prErr F l x = 0) {j : Nat} (hj : j < l.length) (he : gp l j = ⟨0, 0⟩) : gp l 0 = ⟨0, 0⟩ := by
  by_cases h0 : j = 0
  · subst h0; exact he
  · have h1 := pr_asc h (i := 0) (j - 1) (by omega)
    rw [show 0 + (j - 1) + 1 = j by omega, he] at h1
    have h2 := pr_in (h 0 (by omega))
    unfold lessR at h1
    dsimp only at h1
    split at h1
    · have := of_decide_eq_true h1; omega
    · have := of_decide_eq_true h1; omega
theorem pr_mono {F : Int} {l : List Pr} (h : ∀ x, x < l.length → prErr F l x = 0) {i j : Nat} (hij : i ≤ j) (hj : j < l.length) : (gp l i).i ≤ (gp l j).i := by
  by_cases e : i = j
  · rw [e]; exact Int.le_refl _
  · have h1 := pr_asc h (i := i) (j - i - 1) (by omega)
    rw [show i + (j - i - 1) + 1 = j by omega] at h1
    unfold lessR at h1
    split at h1
    · have := of_decide_eq_true h1; omega
    · omega
/-- What a valid problem says of its parts. -/
structure Ok (p : Pb) : Prop where
  sup : superErr p.ns p.es p.mn = 0
  f1 : 1 ≤ p.F
  f2 : p.F ≤ 1024
  len : p.fl.length = p.es.length
  fl : ∀ k, k < p.fl.length → (gf p.fl k).length ≤ 8192 ∧ (∀ j, j < (gf p.fl k).length → prErr p.F (gf p.fl k) j = 0) ∧ 0 < (gf p.fl k).length ∧ gp (gf p.fl k) 0 = ⟨0, 0⟩
  sd : ∀ j, j < p.sd.length → sdErr p.ns.length p.F p.sd j = 0
theorem ok_of {p : Pb} (h : pbErr p = 0) : Ok p := by
  unfold pbErr at h
  by_cases h1 : superErr p.ns p.es p.mn = 0
  case neg => rw [if_pos h1] at h; exact absurd h h1
  rw [if_neg (not_not_intro h1)] at h
  by_cases h2 : p.F < 1 ∨ 1024 < p.F
  · rw [if_pos h2] at h; cases h
  rw [if_neg h2] at h
  by_cases h3 : p.fl.length = p.es.length
  case neg => rw [if_pos h3] at h; cases h
  rw [if_neg (not_not_intro h3)] at h
  by_cases h4 : fe (fun i => flErr p.F (gf p.fl i)) 0 p.fl.length = 0
  case neg => rw [if_pos h4] at h; exact absurd h h4
  rw [if_neg (not_not_intro h4)] at h
  refine ⟨h1, by omega, by omega, h3, fun k hk => ?_, fun j hj => fe_zero _ _ h j (Nat.zero_le _) (by omega)⟩
  have h5 := fe_zero _ _ h4 k (Nat.zero_le _) (by omega)
  unfold flErr at h5
  rw [if_neg h2] at h5
  split at h5
  · cases h5
  · split at h5
    · rename_i h9; exact absurd h5 h9
    · rename_i h9
      split at h5
      · cases h5
      · rename_i h8
        exact ⟨by omega, fun j hj => fe_zero _ _ (Decidable.byContradiction h9) j (Nat.zero_le _) (by omega), by omega, Decidable.byContradiction fun h7 => h8 (.inr h7)⟩
theorem Ok.pair {p : Pb} (h : Ok p) {k : Nat} (hk : k < p.fl.length) {q : Pr} (hq : q ∈ gf p.fl k) : 0 ≤ q.i ∧ q.i < p.F ∧ 0 ≤ q.o ∧ q.o < p.F := by
  obtain ⟨j, hj, rfl⟩ := mem_gp hq
  exact pr_in ((h.fl k hk).2.1 j hj)
theorem Ok.seed {p : Pb} (h : Ok p) {s : Sd} (hs : s ∈ p.sd) : 0 ≤ s.n ∧ s.n < p.ns.length ∧ 1 ≤ s.f ∧ s.f < p.F := by
  obtain ⟨j, hj, rfl⟩ := mem_gd hs
  have := h.sd j hj
  unfold sdErr at this
  split at this
  · cases this
  · omega
theorem sup_parts {ns : List Nd} {es : List Ed} {m : Int} (h : superErr ns es m = 0) : ns.length ≤ 8192 ∧ es.length ≤ 32768 ∧ nodesErr ns m = 0 ∧ ∀ k, k < es.length → edgeErr ns es k = 0 := by
  unfold superErr at h
  split at h
  · cases h
  · split at h
    · rename_i h0; exact absurd h h0
    · rename_i h0
      exact ⟨by omega, by omega, Decidable.byContradiction h0, fun k hk => fe_zero _ _ h k (Nat.zero_le _) (by omega)⟩
/-- What a valid supergraph says of an edge. -/
theorem sup_edge {ns : List Nd} {es : List Ed} {m : Int} (h : superErr ns es m = 0) {k : Nat} (hk : k < es.length) :
    0 ≤ (ge es k).a ∧ (ge es k).a < ns.length ∧ 0 ≤ (ge es k).b ∧ (ge es k).b < ns.length ∧ 1 ≤ (ge es k).k ∧ (ge es k).k ≤ 5 ∧ ((ge es k).k ≠ 1 → (ge es k).k ≠ 5 → 0 ≤ (ge es k).c ∧ (ge es k).c < ns.length) ∧ fitsB ns es (ge es k) = true := by
  have := (sup_parts h).2.2.2 k hk
  unfold edgeErr at this
  split at this
  · cases this
  · split at this
    · cases this
    · split at this
      · cases this
      · split at this
        · cases this
        · split at this
          · cases this
          · rename_i h9
            refine ⟨by omega, by omega, by omega, by omega, by omega, by omega, fun h1 h2 => by omega, by simpa using h9⟩
/-- The path edges of a problem: whether d holds at node n if a holds at the start of its function. -/
inductive PE (p : Pb) : Nat → Nat → Nat → Prop
  | main : PE p 0 p.mn.toNat 0
  | seed {s : Sd} : PE p 0 s.n.toNat 0 → s ∈ p.sd → PE p 0 s.n.toNat s.f.toNat
  | flow {a k : Nat} {q : Pr} : k < p.es.length → ((ge p.es k).k = 1 ∨ (ge p.es k).k = 5) → q ∈ gf p.fl k → PE p a (ge p.es k).a.toNat q.i.toNat → PE p a (ge p.es k).b.toNat q.o.toNat
  | call {a k : Nat} {q : Pr} : k < p.es.length → (ge p.es k).k = 2 → q ∈ gf p.fl k → PE p a (ge p.es k).a.toNat q.i.toNat → PE p q.o.toNat (ge p.es k).b.toNat q.o.toNat
  | ret {a c r : Nat} {q s : Pr} : c < p.es.length → (ge p.es c).k = 2 → q ∈ gf p.fl c → r < p.es.length → ((ge p.es r).k = 3 ∨ (ge p.es r).k = 4) → s ∈ gf p.fl r → (ge p.es c).a = (ge p.es r).c →
      (gn p.ns (ge p.es c).b.toNat).f = (gn p.ns (ge p.es r).a.toNat).f → PE p a (ge p.es c).a.toNat q.i.toNat → PE p q.o.toNat (ge p.es r).a.toNat s.i.toNat → PE p a (ge p.es r).b.toNat s.o.toNat
theorem main_in {ns : List Nd} {m : Int} (h : nodesErr ns m = 0) : 0 ≤ m ∧ m < ns.length ∧ (gn ns m.toNat).k = 1 := by
  unfold nodesErr at h
  split at h
  · rename_i h0; exact absurd h h0
  · split at h
    · rename_i h0; exact absurd h h0
    · unfold mainErr at h
      split at h
      · cases h
      · omega
/-- Path edges are in range. -/
theorem PE.rng {p : Pb} (h : Ok p) {a n d : Nat} (hp : PE p a n d) : n < p.ns.length ∧ (a : Int) < p.F ∧ (d : Int) < p.F := by
  have f1 := h.f1
  have hm := main_in (sup_parts h.sup).2.2.1
  induction hp with
  | main => exact ⟨by omega, by omega, by omega⟩
  | seed _ hs ih => have := h.seed hs; exact ⟨by omega, by omega, by omega⟩
  | flow hk _ hq _ ih => have := h.pair (by rw [h.len]; exact hk) hq; have := sup_edge h.sup hk; exact ⟨by omega, by omega, by omega⟩
  | call hk _ hq _ ih => have := h.pair (by rw [h.len]; exact hk) hq; have := sup_edge h.sup hk; exact ⟨by omega, by omega, by omega⟩
  | ret hc _ _ hr _ hs _ _ _ _ ih1 ih2 => have := h.pair (by rw [h.len]; exact hr) hs; have := sup_edge h.sup hr; exact ⟨by omega, by omega, by omega⟩
end If
end Go.Df
