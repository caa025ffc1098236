/- A pack of texts: Ia Ib Ic Id Ie Kg Kp. -/
import Derived.Test.YtmbihjlflcjlnaaGreatSh
import Derived.Test.YtmbihjlflcjlnaaGreatSj
/- IFDS problems in plain words: their error, their path edges. -/
namespace Go.Df
open Go.RowKit
namespace If
open Sp
/-- A pair of facts; a seed. -/
structure Pr where
  i : Int
  o : Int
deriving DecidableEq
structure Sd where
  n : Int
  f : Int
deriving DecidableEq
def gp (l : List Pr) (i : Nat) : Pr := l.getD i ⟨0, 0⟩
def gd (l : List Sd) (i : Nat) : Sd := l.getD i ⟨0, 0⟩
def gf (ls : List (List Pr)) (i : Nat) : List Pr := ls.getD i []
theorem gp_lt {l : List Pr} {i : Nat} (h : i < l.length) : gp l i = l[i] := by simp [gp, h]
theorem gd_lt {l : List Sd} {i : Nat} (h : i < l.length) : gd l i = l[i] := by simp [gd, h]
theorem gf_lt {l : List (List Pr)} {i : Nat} (h : i < l.length) : gf l i = l[i] := by simp [gf, h]
theorem gp_mem {l : List Pr} {i : Nat} (h : i < l.length) : gp l i ∈ l := by rw [gp_lt h]; exact List.getElem_mem h
theorem gd_mem {l : List Sd} {i : Nat} (h : i < l.length) : gd l i ∈ l := by rw [gd_lt h]; exact List.getElem_mem h
theorem mem_gp {l : List Pr} {q : Pr} (h : q ∈ l) : ∃ i, i < l.length ∧ gp l i = q := by
  obtain ⟨i, hi, rfl⟩ := List.getElem_of_mem h
  exact ⟨i, hi, gp_lt hi⟩
theorem mem_gd {l : List Sd} {q : Sd} (h : q ∈ l) : ∃ i, i < l.length ∧ gd l i = q := by
  obtain ⟨i, hi, rfl⟩ := List.getElem_of_mem h
  exact ⟨i, hi, gd_lt hi⟩
def lessR (a b : Pr) : Bool := if a.i ≠ b.i then decide (a.i < b.i) else decide (a.o < b.o)
def lessD (a b : Sd) : Bool := if a.n ≠ b.n then decide (a.n < b.n) else decide (a.f < b.f)
theorem ordR_ge (a b : Pr) : decide (0 ≤ orL [cmpI a.i b.i, cmpI a.o b.o]) = !lessR a b := by
  unfold lessR
  rw [or_cmp, or_last]
  split <;> rfl
theorem ordD_ge (a b : Sd) : decide (0 ≤ orL [cmpI a.n b.n, cmpI a.f b.f]) = !lessD a b := by
  unfold lessD
  rw [or_cmp, or_last]
  split <;> rfl
/-- The error of a pair, of a flow function, of a seed, of a problem. -/
def prErr (F : Int) (l : List Pr) (j : Nat) : Int :=
  if (gp l j).i < 0 ∨ F ≤ (gp l j).i ∨ (gp l j).o < 0 ∨ F ≤ (gp l j).o then 4 else if 0 < j ∧ lessR (gp l (j - 1)) (gp l j) = false then 13 else 0
def flErr (F : Int) (l : List Pr) : Int :=
  if F < 1 ∨ 1024 < F then 4 else if 8192 < l.length then 3 else if fe (prErr F l) 0 l.length ≠ 0 then fe (prErr F l) 0 l.length else if l.length = 0 ∨ gp l 0 ≠ ⟨0, 0⟩ then 1 else 0
def sdErr (N : Nat) (F : Int) (l : List Sd) (j : Nat) : Int :=
  if (gd l j).n < 0 ∨ (N : Int) ≤ (gd l j).n ∨ (gd l j).f < 1 ∨ F ≤ (gd l j).f then 4 else if 0 < j ∧ lessD (gd l (j - 1)) (gd l j) = false then 13 else 0
/-- A problem. -/
structure Pb where
  ns : List Nd
  es : List Ed
  mn : Int
  F : Int
  fl : List (List Pr)
  sd : List Sd
def pbErr (p : Pb) : Int :=
  if superErr p.ns p.es p.mn ≠ 0 then superErr p.ns p.es p.mn else if p.F < 1 ∨ 1024 < p.F then 4 else if p.fl.length ≠ p.es.length then 20
  else if fe (fun i => flErr p.F (gf p.fl i)) 0 p.fl.length ≠ 0 then fe (fun i => flErr p.F (gf p.fl i)) 0 p.fl.length else fe (sdErr p.ns.length p.F p.sd) 0 p.sd.length
theorem fl_hit {F : Int} {l : List Pr} {e : Int} {j : Nat} (h0 : 1 ≤ F) (h2 : F ≤ 1024) (h1 : l.length ≤ 8192) (h : ∀ x, x < j → prErr F l x = 0) (hj : j < l.length) (he : prErr F l j = e) (hn : e ≠ 0) : flErr F l = e := by
  unfold flErr
  rw [if_neg (by omega), if_neg (by omega), fe_hit h hj he hn, if_pos hn]
theorem fl_end {F : Int} {l : List Pr} (h0 : 1 ≤ F) (h2 : F ≤ 1024) (h1 : l.length ≤ 8192) (h : ∀ x, x < l.length → prErr F l x = 0) : flErr F l = if l.length = 0 ∨ gp l 0 ≠ ⟨0, 0⟩ then 1 else 0 := by
  unfold flErr
  rw [if_neg (by omega), if_neg (by omega), fe_ok l.length 0 (fun i _ hi => h i (by omega)), if_neg (by simp)]
theorem pb_flow {p : Pb} {e : Int} {j : Nat} (h1 : superErr p.ns p.es p.mn = 0) (h2 : ¬ (p.F < 1 ∨ 1024 < p.F)) (h3 : p.fl.length = p.es.length)
    (h : ∀ x, x < j → flErr p.F (gf p.fl x) = 0) (hj : j < p.fl.length) (he : flErr p.F (gf p.fl j) = e) (h0 : e ≠ 0) : pbErr p = e := by
  unfold pbErr
  rw [if_neg (not_not_intro h1), if_neg h2, if_neg (not_not_intro h3), fe_hit h hj he h0, if_pos h0]
theorem pb_seed {p : Pb} {e : Int} {j : Nat} (h1 : superErr p.ns p.es p.mn = 0) (h2 : ¬ (p.F < 1 ∨ 1024 < p.F)) (h3 : p.fl.length = p.es.length)
    (h4 : ∀ x, x < p.fl.length → flErr p.F (gf p.fl x) = 0) (h : ∀ x, x < j → sdErr p.ns.length p.F p.sd x = 0) (hj : j < p.sd.length) (he : sdErr p.ns.length p.F p.sd j = e) (h0 : e ≠ 0) : pbErr p = e := by
  unfold pbErr
  rw [if_neg (not_not_intro h1), if_neg h2, if_neg (not_not_intro h3), fe_ok p.fl.length 0 (fun i _ hi => h4 i (by omega)), if_neg (by simp), fe_hit h hj he h0]
theorem pb_ok {p : Pb} (h1 : superErr p.ns p.es p.mn = 0) (h2 : ¬ (p.F < 1 ∨ 1024 < p.F)) (h3 : p.fl.length = p.es.length)
    (h4 : ∀ x, x < p.fl.length → flErr p.F (gf p.fl x) = 0) (h : ∀ x, x < p.sd.length → sdErr p.ns.length p.F p.sd x = 0) : pbErr p = 0 := by
  unfold pbErr
  rw [if_neg (not_not_intro h1), if_neg h2, if_neg (not_not_intro h3), fe_ok p.fl.length 0 (fun i _ hi => h4 i (by omega)), if_neg (by simp), fe_ok p.sd.length 0 (fun i _ hi => h i (by omega))]
theorem lessR_trans {a b c : Pr} (h1 : lessR a b = true) (h2 : lessR b c = true) : lessR a c = true := by
  unfold lessR at *
  grind
/-- Pairs without an error ascend. -/
theorem pr_asc {F : Int} {l : List Pr} (h : ∀ x, x < l.length → prErr F l x = 0) {i : Nat} : ∀ (d : Nat), i + d + 1 < l.length → lessR (gp l i) (gp l (i + d + 1)) = true := by
  have adj : ∀ j, j + 1 < l.length → lessR (gp l j) (gp l (j + 1)) = true := fun j hj => by
    have := h (j + 1) hj
    unfold prErr at this
    split at this
    · cases this
    · split at this
      · cases this
      · rename_i hv
        cases hh : lessR (gp l j) (gp l (j + 1)) with
        | true => rfl
        | false => exact absurd ⟨Nat.succ_pos _, hh⟩ hv
  intro d
  induction d with
  | zero => intro hi; exact adj i hi
  | succ d ih => intro hi; exact lessR_trans (ih (by omega)) (adj (i + d + 1) (by omega))
theorem pr_in {F : Int} {l : List Pr} {j : Nat} (h : prErr F l j = 0) : 0 ≤ (gp l j).i ∧ (gp l j).i < F ∧ 0 ≤ (gp l j).o ∧ (gp l j).o < F := by
  unfold prErr at h
  split at h
  · cases h
  · omega
/-- The pair of Zero and Zero can only stand first. -/
theorem pr_first {F : Int} {l : List Pr} (h : ∀ x, x < l.length → prErr F l x = 0) {j : Nat} (hj : j < l.length) (he : gp l j = ⟨0, 0⟩) : gp l 0 = ⟨0, 0⟩ := by
  by_cases h0 : j = 0
  · subst h0; exact he
  · have h1 := pr_asc h (i := 0) (j - 1) (by omega)
    rw [show 0 + (j - 1) + 1 = j by omega, he] at h1
    have h2 := pr_in (h 0 (by omega))
    unfold lessR at h1
    dsimp only at h1
    split at h1
    · have := of_decide_eq_true h1; omega
    · have := of_decide_eq_true h1; omega
theorem pr_mono {F : Int} {l : List Pr} (h : ∀ x, x < l.length → prErr F l x = 0) {i j : Nat} (hij : i ≤ j) (hj : j < l.length) : (gp l i).i ≤ (gp l j).i := by
  by_cases e : i = j
  · rw [e]; exact Int.le_refl _
  · have h1 := pr_asc h (i := i) (j - i - 1) (by omega)
    rw [show i + (j - i - 1) + 1 = j by omega] at h1
    unfold lessR at h1
    split at h1
    · have := of_decide_eq_true h1; omega
    · omega
/-- What a valid problem says of its parts. -/
structure Ok (p : Pb) : Prop where
  sup : superErr p.ns p.es p.mn = 0
  f1 : 1 ≤ p.F
  f2 : p.F ≤ 1024
  len : p.fl.length = p.es.length
  fl : ∀ k, k < p.fl.length → (gf p.fl k).length ≤ 8192 ∧ (∀ j, j < (gf p.fl k).length → prErr p.F (gf p.fl k) j = 0) ∧ 0 < (gf p.fl k).length ∧ gp (gf p.fl k) 0 = ⟨0, 0⟩
  sd : ∀ j, j < p.sd.length → sdErr p.ns.length p.F p.sd j = 0
theorem ok_of {p : Pb} (h : pbErr p = 0) : Ok p := by
  unfold pbErr at h
  by_cases h1 : superErr p.ns p.es p.mn = 0
  case neg => rw [if_pos h1] at h; exact absurd h h1
  rw [if_neg (not_not_intro h1)] at h
  by_cases h2 : p.F < 1 ∨ 1024 < p.F
  · rw [if_pos h2] at h; cases h
  rw [if_neg h2] at h
  by_cases h3 : p.fl.length = p.es.length
  case neg => rw [if_pos h3] at h; cases h
  rw [if_neg (not_not_intro h3)] at h
  by_cases h4 : fe (fun i => flErr p.F (gf p.fl i)) 0 p.fl.length = 0
  case neg => rw [if_pos h4] at h; exact absurd h h4
  rw [if_neg (not_not_intro h4)] at h
  refine ⟨h1, by omega, by omega, h3, fun k hk => ?_, fun j hj => fe_zero _ _ h j (Nat.zero_le _) (by omega)⟩
  have h5 := fe_zero _ _ h4 k (Nat.zero_le _) (by omega)
  unfold flErr at h5
  rw [if_neg h2] at h5
  split at h5
  · cases h5
  · split at h5
    · rename_i h9; exact absurd h5 h9
    · rename_i h9
      split at h5
      · cases h5
      · rename_i h8
        exact ⟨by omega, fun j hj => fe_zero _ _ (Decidable.byContradiction h9) j (Nat.zero_le _) (by omega), by omega, Decidable.byContradiction fun h7 => h8 (.inr h7)⟩
theorem Ok.pair {p : Pb} (h : Ok p) {k : Nat} (hk : k < p.fl.length) {q : Pr} (hq : q ∈ gf p.fl k) : 0 ≤ q.i ∧ q.i < p.F ∧ 0 ≤ q.o ∧ q.o < p.F := by
  obtain ⟨j, hj, rfl⟩ := mem_gp hq
  exact pr_in ((h.fl k hk).2.1 j hj)
theorem Ok.seed {p : Pb} (h : Ok p) {s : Sd} (hs : s ∈ p.sd) : 0 ≤ s.n ∧ s.n < p.ns.length ∧ 1 ≤ s.f ∧ s.f < p.F := by
  obtain ⟨j, hj, rfl⟩ := mem_gd hs
  have := h.sd j hj
  unfold sdErr at this
  split at this
  · cases this
  · omega
theorem sup_parts {ns : List Nd} {es : List Ed} {m : Int} (h : superErr ns es m = 0) : ns.length ≤ 8192 ∧ es.length ≤ 32768 ∧ nodesErr ns m = 0 ∧ ∀ k, k < es.length → edgeErr ns es k = 0 := by
  unfold superErr at h
  split at h
  · cases h
  · split at h
    · rename_i h0; exact absurd h h0
    · rename_i h0
      exact ⟨by omega, by omega, Decidable.byContradiction h0, fun k hk => fe_zero _ _ h k (Nat.zero_le _) (by omega)⟩
/-- What a valid supergraph says of an edge. -/
theorem sup_edge {ns : List Nd} {es : List Ed} {m : Int} (h : superErr ns es m = 0) {k : Nat} (hk : k < es.length) :
    0 ≤ (ge es k).a ∧ (ge es k).a < ns.length ∧ 0 ≤ (ge es k).b ∧ (ge es k).b < ns.length ∧ 1 ≤ (ge es k).k ∧ (ge es k).k ≤ 5 ∧ ((ge es k).k ≠ 1 → (ge es k).k ≠ 5 → 0 ≤ (ge es k).c ∧ (ge es k).c < ns.length) ∧ fitsB ns es (ge es k) = true := by
  have := (sup_parts h).2.2.2 k hk
  unfold edgeErr at this
  split at this
  · cases this
  · split at this
    · cases this
    · split at this
      · cases this
      · split at this
        · cases this
        · split at this
          · cases this
          · rename_i h9
            refine ⟨by omega, by omega, by omega, by omega, by omega, by omega, fun h1 h2 => by omega, by simpa using h9⟩
/-- The path edges of a problem: whether d holds at node n if a holds at the start of its function. -/
inductive PE (p : Pb) : Nat → Nat → Nat → Prop
  | main : PE p 0 p.mn.toNat 0
  | seed {s : Sd} : PE p 0 s.n.toNat 0 → s ∈ p.sd → PE p 0 s.n.toNat s.f.toNat
  | flow {a k : Nat} {q : Pr} : k < p.es.length → ((ge p.es k).k = 1 ∨ (ge p.es k).k = 5) → q ∈ gf p.fl k → PE p a (ge p.es k).a.toNat q.i.toNat → PE p a (ge p.es k).b.toNat q.o.toNat
  | call {a k : Nat} {q : Pr} : k < p.es.length → (ge p.es k).k = 2 → q ∈ gf p.fl k → PE p a (ge p.es k).a.toNat q.i.toNat → PE p q.o.toNat (ge p.es k).b.toNat q.o.toNat
  | ret {a c r : Nat} {q s : Pr} : c < p.es.length → (ge p.es c).k = 2 → q ∈ gf p.fl c → r < p.es.length → ((ge p.es r).k = 3 ∨ (ge p.es r).k = 4) → s ∈ gf p.fl r → (ge p.es c).a = (ge p.es r).c →
      (gn p.ns (ge p.es c).b.toNat).f = (gn p.ns (ge p.es r).a.toNat).f → PE p a (ge p.es c).a.toNat q.i.toNat → PE p q.o.toNat (ge p.es r).a.toNat s.i.toNat → PE p a (ge p.es r).b.toNat s.o.toNat
theorem main_in {ns : List Nd} {m : Int} (h : nodesErr ns m = 0) : 0 ≤ m ∧ m < ns.length ∧ (gn ns m.toNat).k = 1 := by
  unfold nodesErr at h
  split at h
  · rename_i h0; exact absurd h h0
  · split at h
    · rename_i h0; exact absurd h h0
    · unfold mainErr at h
      split at h
      · cases h
      · omega
/-- Path edges are in range. -/
theorem PE.rng {p : Pb} (h : Ok p) {a n d : Nat} (hp : PE p a n d) : n < p.ns.length ∧ (a : Int) < p.F ∧ (d : Int) < p.F := by
  have f1 := h.f1
  have hm := main_in (sup_parts h.sup).2.2.1
  induction hp with
  | main => exact ⟨by omega, by omega, by omega⟩
  | seed _ hs ih => have := h.seed hs; exact ⟨by omega, by omega, by omega⟩
  | flow hk _ hq _ ih => have := h.pair (by rw [h.len]; exact hk) hq; have := sup_edge h.sup hk; exact ⟨by omega, by omega, by omega⟩
  | call hk _ hq _ ih => have := h.pair (by rw [h.len]; exact hk) hq; have := sup_edge h.sup hk; exact ⟨by omega, by omega, by omega⟩
  | ret hc _ _ hr _ hs _ _ _ _ ih1 ih2 => have := h.pair (by rw [h.len]; exact hr) hs; have := sup_edge h.sup hr; exact ⟨by omega, by omega, by omega⟩
end If
end Go.Df
/- Starts of functions; closed tables hold all path edges. No program in sight. -/
namespace Go.Df
open Go.RowKit
namespace If
open Sp
/-- The last start node up to a node. -/
def stOf (ns : List Nd) : Nat → Nat
  | 0 => 0
  | i + 1 => if (gn ns (i + 1)).k = 1 then i + 1 else stOf ns i
theorem stOf_le (ns : List Nd) : ∀ i, stOf ns i ≤ i
  | 0 => Nat.le_refl _
  | i + 1 => by
    rw [stOf]
    split
    · exact Nat.le_refl _
    · exact Nat.le_succ_of_le (stOf_le ns i)
theorem stOf_hit {ns : List Nd} {j : Nat} : ∀ {i : Nat}, j ≤ i → (gn ns j).k = 1 → j ≤ stOf ns i ∧ (gn ns (stOf ns i)).k = 1
  | 0, h, hk => by obtain rfl : j = 0 := by omega
                   exact ⟨Nat.zero_le _, hk⟩
  | i + 1, h, hk => by
    rw [stOf]
    split
    · rename_i h1; exact ⟨h, h1⟩
    · rename_i h1
      by_cases e : j = i + 1
      · subst e; exact absurd hk h1
      · exact stOf_hit (by omega) hk
structure NdOk (ns : List Nd) : Prop where
  err : ∀ x, x < ns.length → nodeErr ns x = 0
  st : ∀ x, x < ns.length → ∃ j, j < ns.length ∧ (gn ns j).f = (gn ns x).f ∧ (gn ns j).k = 1
theorem ndOk_of {ns : List Nd} {m : Int} (h : nodesErr ns m = 0) : NdOk ns := by
  unfold nodesErr at h
  split at h
  · rename_i h0; exact absurd h h0
  · rename_i h0
    split at h
    · rename_i h1; exact absurd h h1
    · rename_i h1
      refine ⟨fun x hx => fe_zero _ _ (Decidable.byContradiction h0) x (Nat.zero_le _) (by omega), fun x hx => ?_⟩
      have h2 := fe_zero _ _ (Decidable.byContradiction h1) x (Nat.zero_le _) (by omega)
      unfold wholeErr at h2
      split at h2
      · cases h2
      · rename_i h3
        refine Classical.byContradiction fun h4 => h3 (.inl (kind_neg.2 fun j hj hh => h4 ⟨j, hj, hh.1, hh.2⟩))
theorem NdOk.kind {ns : List Nd} (h : NdOk ns) {x : Nat} (hx : x < ns.length) : 1 ≤ (gn ns x).k ∧ (gn ns x).k ≤ 4 := by
  have := h.err x hx
  unfold nodeErr at this
  split at this
  · cases this
  · omega
theorem NdOk.le {ns : List Nd} (h : NdOk ns) {i j : Nat} (hij : i ≤ j) (hj : j < ns.length) : (gn ns i).f ≤ (gn ns j).f := by
  by_cases e : i = j
  · rw [e]; exact Int.le_refl _
  · have := node_asc h.err j i (by omega) hj
    unfold lessN at this
    split at this
    · have := of_decide_eq_true this; omega
    · omega
/-- The start of a function stands at or ahead of its nodes. -/
theorem NdOk.ahead {ns : List Nd} (h : NdOk ns) {j x : Nat} (hj : j < ns.length) (hx : x < ns.length) (hf : (gn ns j).f = (gn ns x).f) (hk : (gn ns j).k = 1) : j ≤ x := by
  rcases Nat.lt_or_ge x j with h1 | h1
  · have h2 := node_asc h.err j x h1 hj
    have h3 := h.kind hx
    unfold lessN at h2
    rw [if_neg (by rw [hf]; simp)] at h2
    split at h2
    · have := of_decide_eq_true h2; omega
    · rename_i h4
      have h5 : (gn ns x).k = 1 := by rw [← hk]; exact Decidable.byContradiction h4
      have := of_decide_eq_true h2
      rw [node_i (h.err x hx) (by omega), node_i (h.err j hj) (by omega)] at this
      omega
  · exact h1
theorem NdOk.start {ns : List Nd} (h : NdOk ns) {x : Nat} (hx : x < ns.length) : (gn ns (stOf ns x)).f = (gn ns x).f ∧ (gn ns (stOf ns x)).k = 1 := by
  obtain ⟨j, hj, hf, hk⟩ := h.st x hx
  have h1 := h.ahead hj hx hf hk
  obtain ⟨h2, h3⟩ := stOf_hit h1 hk
  have h4 := stOf_le ns x
  have h5 := h.le h2 (by omega)
  have h6 := h.le h4 hx
  exact ⟨by omega, h3⟩
/-- The start of the function of node x is s. -/
theorem NdOk.start_iff {ns : List Nd} (h : NdOk ns) {x s : Nat} (hx : x < ns.length) (hs : s < ns.length) (hk : (gn ns s).k = 1) : stOf ns x = s ↔ (gn ns s).f = (gn ns x).f := by
  have h1 := h.start hx
  constructor
  · rintro rfl; exact h1.1
  · intro hf
    have hl : stOf ns x < ns.length := by have := stOf_le ns x; omega
    have h2 := h.ahead hs hl (by rw [hf, h1.1]) hk
    have h3 := h.ahead hl hs (by rw [hf, h1.1]) h1.2
    omega
theorem Ok.nd {p : Pb} (h : Ok p) : NdOk p.ns := ndOk_of (sup_parts h.sup).2.2.1
theorem Ok.edge {p : Pb} (h : Ok p) {k : Nat} (hk : k < p.es.length) :
    0 ≤ (ge p.es k).a ∧ (ge p.es k).a < p.ns.length ∧ 0 ≤ (ge p.es k).b ∧ (ge p.es k).b < p.ns.length ∧ 1 ≤ (ge p.es k).k ∧ (ge p.es k).k ≤ 5 ∧ ((ge p.es k).k ≠ 1 → (ge p.es k).k ≠ 5 → 0 ≤ (ge p.es k).c ∧ (ge p.es k).c < p.ns.length) ∧ fitsB p.ns p.es (ge p.es k) = true := sup_edge h.sup hk
/-- A call leads from an instruction to a start; the ends of a return. -/
theorem Ok.call {p : Pb} (h : Ok p) {k : Nat} (hk : k < p.es.length) (h2 : (ge p.es k).k = 2) : (gn p.ns (ge p.es k).b.toNat).k = 1 ∧ (gn p.ns (ge p.es k).a.toNat).k = 2 ∧ (ge p.es k).c = (ge p.es k).a := by
  have h1 := (h.edge hk).2.2.2.2.2.2.2
  unfold fitsB fitsN at h1
  rw [if_neg (by omega), if_pos h2] at h1
  simp at h1
  exact ⟨h1.2, h1.1.1, h1.1.2⟩
theorem Ok.ret {p : Pb} (h : Ok p) {k : Nat} (hk : k < p.es.length) (h2 : (ge p.es k).k = 3 ∨ (ge p.es k).k = 4) : (gn p.ns (ge p.es k).a.toNat).k = 3 ∨ (gn p.ns (ge p.es k).a.toNat).k = 4 := by
  have h1 := (h.edge hk).2.2.2.2.2.2.2
  unfold fitsB fitsN at h1
  rw [if_neg (by omega), if_neg (by omega)] at h1
  split at h1
  · cases h1
  · omega
/-- A table that is closed under the rules. -/
structure Clo (p : Pb) (T : Nat → Nat → Nat → Prop) : Prop where
  main : T 0 p.mn.toNat 0
  seed : ∀ s ∈ p.sd, T 0 s.n.toNat 0 → T 0 s.n.toNat s.f.toNat
  flow : ∀ k, k < p.es.length → ((ge p.es k).k = 1 ∨ (ge p.es k).k = 5) → ∀ q ∈ gf p.fl k, ∀ a, T a (ge p.es k).a.toNat q.i.toNat → T a (ge p.es k).b.toNat q.o.toNat
  call : ∀ k, k < p.es.length → (ge p.es k).k = 2 → ∀ q ∈ gf p.fl k, ∀ a, T a (ge p.es k).a.toNat q.i.toNat → T q.o.toNat (ge p.es k).b.toNat q.o.toNat
  ret : ∀ c, c < p.es.length → (ge p.es c).k = 2 → ∀ q ∈ gf p.fl c, ∀ r, r < p.es.length → ((ge p.es r).k = 3 ∨ (ge p.es r).k = 4) → ∀ s ∈ gf p.fl r, (ge p.es c).a = (ge p.es r).c → (gn p.ns (ge p.es c).b.toNat).f = (gn p.ns (ge p.es r).a.toNat).f →
    ∀ a, T a (ge p.es c).a.toNat q.i.toNat → T q.o.toNat (ge p.es r).a.toNat s.i.toNat → T a (ge p.es r).b.toNat s.o.toNat
theorem Clo.all {p : Pb} {T : Nat → Nat → Nat → Prop} (h : Clo p T) {a n d : Nat} (hp : PE p a n d) : T a n d := by
  induction hp with
  | main => exact h.main
  | seed _ hs ih => exact h.seed _ hs ih
  | flow hk hk2 hq _ ih => exact h.flow _ hk hk2 _ hq _ ih
  | call hk hk2 hq _ ih => exact h.call _ hk hk2 _ hq _ ih
  | ret hc hc2 hq hr hr2 hs e1 e2 _ _ ih1 ih2 => exact h.ret _ hc hc2 _ hq _ hr hr2 _ hs e1 e2 _ ih1 ih2
theorem PE.clo (p : Pb) : Clo p (PE p) := ⟨.main, fun _ hs h => .seed h hs, fun _ hk h2 _ hq _ h => .flow hk h2 hq h, fun _ hk h2 _ hq _ h => .call hk h2 hq h, fun _ hc h2 _ hq _ hr hr2 _ hs e1 e2 _ h h' => .ret hc h2 hq hr hr2 hs e1 e2 h h'⟩
end If
end Go.Df
/- The tabulation of the program in plain words, and that it finds all path edges. -/
namespace Go.Df
open Go.RowKit
namespace If
open Sp
/-- The state of the tabulation: what is held (node, fact at the start, fact), what was entered (edge, fact at the callee's start, fact at the caller's), the pending pairs, the queue. -/
structure St where
  h : Nat → Nat → Nat → Bool
  e : Nat → Nat → Nat → Bool
  pd : Nat → List (Nat × Nat)
  q : List Nat
def St.add (s : St) (n a d : Nat) : St :=
  if s.h n a d = true then s else
    ⟨fun n' a' d' => s.h n' a' d' || (n' == n && (a' == a && d' == d)), s.e, fun n' => if n' = n then s.pd n ++ [(a, d)] else s.pd n', if s.pd n = [] then s.q ++ [n] else s.q⟩
def St.ent (s : St) (k b a : Nat) : St := ⟨s.h, fun k' b' a' => s.e k' b' a' || (k' == k && (b' == b && a' == a)), s.pd, s.q⟩
/-- The pairs of an edge that begin with d. -/
def froms (l : List Pr) (d : Nat) : List Pr := l.filter fun q => q.i == (d : Int)
/-- The elements of a set of facts, ascending. -/
def elems (F : Nat) (f : Nat → Bool) : List Nat := (List.range F).filter f
def outL (p : Pb) (n : Nat) : List Nat := (List.range p.es.length).filter fun k => (ge p.es k).a == (n : Int)
def callL (p : Pb) (n : Nat) : List Nat := (List.range p.es.length).filter fun k => (ge p.es k).k == 2 && (ge p.es k).b == (n : Int)
def retL (p : Pb) (n : Nat) : List Nat := (List.range p.es.length).filter fun k => ((ge p.es k).k == 3 || (ge p.es k).k == 4) && (ge p.es k).c == (n : Int)
def seedL (p : Pb) (n : Nat) : List Sd := p.sd.filter fun s => s.n == (n : Int)
def spread (p : Pb) (k a d : Nat) (s : St) : St := (froms (gf p.fl k) d).foldl (fun s q => s.add (ge p.es k).b.toNat a q.o.toNat) s
/-- What is known of the callee at a return edge r, passed on to a. -/
def enterR (p : Pb) (k a b : Nat) (s : St) (r : Nat) : St :=
  if stOf p.ns (ge p.es r).a.toNat = (ge p.es k).b.toNat then (elems p.F.toNat (s.h (ge p.es r).a.toNat b)).foldl (fun s f => spread p r a f s) s else s
def enter1 (p : Pb) (k a b : Nat) (s : St) : St :=
  if (s.add (ge p.es k).b.toNat b b).e k b a = true then s.add (ge p.es k).b.toNat b b else (retL p (ge p.es k).a.toNat).foldl (enterR p k a b) ((s.add (ge p.es k).b.toNat b b).ent k b a)
def enter (p : Pb) (k a d : Nat) (s : St) : St := (froms (gf p.fl k) d).foldl (fun s q => enter1 p k a q.o.toNat s) s
def leaveR (p : Pb) (n d : Nat) (cs : List Nat) (s : St) (r : Nat) : St := if (ge p.es r).a.toNat = n then cs.foldl (fun s a => spread p r a d s) s else s
def leave1 (p : Pb) (n b d : Nat) (s : St) (k : Nat) : St := (retL p (ge p.es k).a.toNat).foldl (leaveR p n d (elems p.F.toNat (s.e k b))) s
def leave (p : Pb) (n b d : Nat) (s : St) : St := (callL p (stOf p.ns n)).foldl (leave1 p n b d) s
def stepE (p : Pb) (a d : Nat) (s : St) (k : Nat) : St := if (ge p.es k).k = 1 ∨ (ge p.es k).k = 5 then spread p k a d s else if (ge p.es k).k = 2 then enter p k a d s else s
def stepA (p : Pb) (n a d : Nat) (s : St) : St := if a = 0 ∧ d = 0 then (seedL p n).foldl (fun s x => s.add n 0 x.f.toNat) s else s
def step (p : Pb) (n a d : Nat) (s : St) : St :=
  if (gn p.ns n).k = 3 ∨ (gn p.ns n).k = 4 then leave p n a d ((outL p n).foldl (stepE p a d) (stepA p n a d s)) else (outL p n).foldl (stepE p a d) (stepA p n a d s)
/-- Later states hold more; what is newly held is pending. -/
structure Le (s t : St) : Prop where
  h : ∀ n a d, s.h n a d = true → t.h n a d = true
  e : ∀ k b a, s.e k b a = true → t.e k b a = true
  pd : ∀ n x, x ∈ s.pd n → x ∈ t.pd n
  new : ∀ n a d, t.h n a d = true → s.h n a d = true ∨ (a, d) ∈ t.pd n
  old : ∀ n x, x ∈ t.pd n → x ∈ s.pd n ∨ s.h n x.1 x.2 = false
theorem Le.refl (s : St) : Le s s := ⟨fun _ _ _ h => h, fun _ _ _ h => h, fun _ _ h => h, fun _ _ _ h => .inl h, fun _ _ h => .inl h⟩
theorem Le.trans {s t u : St} (h : Le s t) (g : Le t u) : Le s u := by
  refine ⟨fun n a d x => g.h _ _ _ (h.h _ _ _ x), fun n a d x => g.e _ _ _ (h.e _ _ _ x), fun n x y => g.pd _ _ (h.pd _ _ y), fun n a d x => ?_, fun n x y => ?_⟩
  · rcases g.new _ _ _ x with y | y
    · rcases h.new _ _ _ y with z | z
      · exact .inl z
      · exact .inr (g.pd _ _ z)
    · exact .inr y
  · rcases g.old _ _ y with z | z
    · exact h.old _ _ z
    · refine .inr ?_
      cases hh : s.h n x.1 x.2 with
      | false => rfl
      | true => rw [h.h _ _ _ hh] at z; cases z
theorem St.add_le (s : St) (n a d : Nat) : Le s (s.add n a d) := by
  unfold St.add
  split
  · exact Le.refl s
  · rename_i h0
    refine ⟨fun n' a' d' h => by simp [h], fun _ _ _ h => h, fun n' x h => ?_, fun n' a' d' h => ?_, fun n' x h => ?_⟩
    · dsimp only
      split
      · rename_i e; subst e; simp [h]
      · exact h
    · simp at h
      rcases h with h | ⟨rfl, rfl, rfl⟩
      · exact .inl h
      · right; simp
    · dsimp only at h
      split at h
      · rename_i e
        subst e
        simp at h
        rcases h with h | rfl
        · exact .inl h
        · right; simpa using h0
      · exact .inl h
theorem St.add_has (s : St) (n a d : Nat) : (s.add n a d).h n a d = true := by
  unfold St.add
  split
  · assumption
  · simp
theorem St.ent_le (s : St) (k b a : Nat) : Le s (s.ent k b a) := ⟨fun _ _ _ h => h, fun k' b' a' h => by simp [St.ent, h], fun _ _ h => h, fun _ _ _ h => .inl h, fun _ _ h => .inl h⟩
theorem fold_le {α : Type} {f : St → α → St} (hf : ∀ s x, Le s (f s x)) : ∀ (l : List α) (s : St), Le s (l.foldl f s)
  | [], s => Le.refl s
  | x :: l, s => (hf s x).trans (fold_le hf l (f s x))
/-- What one element of a list does stays done. -/
theorem fold_has {α : Type} {f : St → α → St} (hf : ∀ s x, Le s (f s x)) {Q : St → Prop} (hQ : ∀ s t, Le s t → Q s → Q t) {x : α} : ∀ (l : List α) (s : St), x ∈ l → (∀ t, Le s t → Q (f t x)) → Q (l.foldl f s)
  | y :: l, s, hx, h => by
    rcases List.mem_cons.1 hx with rfl | hx
    · exact hQ _ _ (fold_le hf l _) (h s (Le.refl s))
    · exact fold_has hf hQ l _ hx (fun t ht => h t ((hf s y).trans ht))
theorem spread_le (p : Pb) (k a d : Nat) (s : St) : Le s (spread p k a d s) := fold_le (fun s _q => s.add_le _ _ _) _ s
theorem enterR_le (p : Pb) (k a b : Nat) (s : St) (r : Nat) : Le s (enterR p k a b s r) := by
  unfold enterR
  split
  · exact fold_le (fun s f => spread_le p r a f s) _ s
  · exact Le.refl s
theorem enter1_le (p : Pb) (k a b : Nat) (s : St) : Le s (enter1 p k a b s) := by
  unfold enter1
  split
  · exact s.add_le _ _ _
  · exact ((s.add_le _ _ _).trans (St.ent_le _ _ _ _)).trans (fold_le (enterR_le p k a b) _ _)
theorem enter_le (p : Pb) (k a d : Nat) (s : St) : Le s (enter p k a d s) := fold_le (fun s _q => enter1_le p k a _ s) _ s
theorem leaveR_le (p : Pb) (n d : Nat) (cs : List Nat) (s : St) (r : Nat) : Le s (leaveR p n d cs s r) := by
  unfold leaveR
  split
  · exact fold_le (fun s a => spread_le p r a d s) _ s
  · exact Le.refl s
theorem leave1_le (p : Pb) (n b d : Nat) (s : St) (k : Nat) : Le s (leave1 p n b d s k) := fold_le (leaveR_le p n d _) _ s
theorem leave_le (p : Pb) (n b d : Nat) (s : St) : Le s (leave p n b d s) := fold_le (leave1_le p n b d) _ s
theorem stepE_le (p : Pb) (a d : Nat) (s : St) (k : Nat) : Le s (stepE p a d s k) := by
  unfold stepE
  split
  · exact spread_le p k a d s
  · split
    · exact enter_le p k a d s
    · exact Le.refl s
theorem stepA_le (p : Pb) (n a d : Nat) (s : St) : Le s (stepA p n a d s) := by
  unfold stepA
  split
  · exact fold_le (fun s x => s.add_le _ _ _) _ s
  · exact Le.refl s
theorem step_le (p : Pb) (n a d : Nat) (s : St) : Le s (step p n a d s) := by
  have h := (stepA_le p n a d s).trans (fold_le (stepE_le p a d) (outL p n) _)
  unfold step
  split
  · exact h.trans (leave_le p n a d _)
  · exact h
/-- What spread does. -/
theorem mem_froms {l : List Pr} {d : Nat} {q : Pr} : q ∈ froms l d ↔ q ∈ l ∧ q.i = d := by simp [froms]
theorem spread_has {p : Pb} {k a d : Nat} {q : Pr} (hq : q ∈ gf p.fl k) (hd : q.i = d) (s : St) : (spread p k a d s).h (ge p.es k).b.toNat a q.o.toNat = true :=
  fold_has (fun s _q => s.add_le _ _ _) (Q := fun t => t.h (ge p.es k).b.toNat a q.o.toNat = true) (fun _ _ h hq => h.h _ _ _ hq) _ s (mem_froms.2 ⟨hq, hd⟩) (fun t _ => St.add_has t _ _ _)
/-- The set of what may be found. -/
structure Snd (p : Pb) (s : St) : Prop where
  h : ∀ n a d, s.h n a d = true → PE p a n d
  e : ∀ k b a, s.e k b a = true → k < p.es.length ∧ (ge p.es k).k = 2 ∧ ∃ q ∈ gf p.fl k, q.o.toNat = b ∧ PE p a (ge p.es k).a.toNat q.i.toNat
theorem Snd.add {p : Pb} {s : St} (h : Snd p s) {n a d : Nat} (hp : PE p a n d) : Snd p (s.add n a d) := by
  unfold St.add
  split
  · exact h
  · refine ⟨fun n' a' d' h' => ?_, h.e⟩
    simp at h'
    rcases h' with h' | ⟨rfl, rfl, rfl⟩
    · exact h.h _ _ _ h'
    · exact hp
theorem fold_snd {p : Pb} {α : Type} {f : St → α → St} : ∀ (l : List α) (s : St), (∀ x ∈ l, ∀ t, Snd p t → Snd p (f t x)) → Snd p s → Snd p (l.foldl f s)
  | [], _, _, h => h
  | x :: l, s, hf, h => fold_snd l _ (fun y hy => hf y (by simp [hy])) (hf x (by simp) s h)
theorem outL_mem {p : Pb} {n k : Nat} : k ∈ outL p n ↔ k < p.es.length ∧ (ge p.es k).a = n := by simp [outL]
theorem callL_mem {p : Pb} {n k : Nat} : k ∈ callL p n ↔ k < p.es.length ∧ (ge p.es k).k = 2 ∧ (ge p.es k).b = n := by simp [callL]
theorem retL_mem {p : Pb} {n k : Nat} : k ∈ retL p n ↔ k < p.es.length ∧ ((ge p.es k).k = 3 ∨ (ge p.es k).k = 4) ∧ (ge p.es k).c = n := by simp [retL]
theorem seedL_mem {p : Pb} {n : Nat} {s : Sd} : s ∈ seedL p n ↔ s ∈ p.sd ∧ s.n = n := by simp [seedL]
theorem elems_mem {F : Nat} {f : Nat → Bool} {x : Nat} : x ∈ elems F f ↔ x < F ∧ f x = true := by simp [elems]
theorem spread_flow {p : Pb} (_ho : Ok p) {k a d : Nat} (hk : k < p.es.length) (h1 : (ge p.es k).k = 1 ∨ (ge p.es k).k = 5) (hp : PE p a (ge p.es k).a.toNat d) {s : St} (h : Snd p s) : Snd p (spread p k a d s) := by
  refine fold_snd _ s (fun q hq t ht => ht.add ?_) h
  obtain ⟨h2, h3⟩ := mem_froms.1 hq
  exact .flow hk h1 h2 (by rw [h3, Int.toNat_natCast]; exact hp)
/-- A return edge passes on what the callee does. -/
theorem spread_ret {p : Pb} (ho : Ok p) {k r a b d : Nat} (hr : r < p.es.length) (hr2 : (ge p.es r).k = 3 ∨ (ge p.es r).k = 4) (he : k < p.es.length ∧ (ge p.es k).k = 2 ∧ ∃ q ∈ gf p.fl k, q.o.toNat = b ∧ PE p a (ge p.es k).a.toNat q.i.toNat)
    (hc : (ge p.es r).c = (ge p.es k).a) (hf : stOf p.ns (ge p.es r).a.toNat = (ge p.es k).b.toNat) (hp : PE p b (ge p.es r).a.toNat d) {s : St} (h : Snd p s) : Snd p (spread p r a d s) := by
  obtain ⟨hk, hk2, q0, hq0, hb, hp0⟩ := he
  have h1 := ho.edge hr
  have h2 := ho.edge hk
  have h3 := (ho.nd.start_iff (x := (ge p.es r).a.toNat) (s := (ge p.es k).b.toNat) (by omega) (by omega) (ho.call hk hk2).1).1 hf
  refine fold_snd _ s (fun q hq t ht => ht.add ?_) h
  obtain ⟨h4, h5⟩ := mem_froms.1 hq
  exact .ret hk hk2 hq0 hr hr2 h4 hc.symm h3 hp0 (by rw [h5, Int.toNat_natCast, hb]; exact hp)
theorem enter_snd {p : Pb} (ho : Ok p) {k a d : Nat} (hk : k < p.es.length) (hk2 : (ge p.es k).k = 2) (hp : PE p a (ge p.es k).a.toNat d) {s : St} (h : Snd p s) : Snd p (enter p k a d s) := by
  refine fold_snd _ s (fun q hq t ht => ?_) h
  obtain ⟨h2, h3⟩ := mem_froms.1 hq
  have hp' : PE p a (ge p.es k).a.toNat q.i.toNat := by rw [h3, Int.toNat_natCast]; exact hp
  have h4 := ht.add (PE.call hk hk2 h2 hp')
  unfold enter1
  split
  · exact h4
  · have he : k < p.es.length ∧ (ge p.es k).k = 2 ∧ ∃ q' ∈ gf p.fl k, q'.o.toNat = q.o.toNat ∧ PE p a (ge p.es k).a.toNat q'.i.toNat := ⟨hk, hk2, q, h2, rfl, hp'⟩
    refine fold_snd _ _ (fun r hr t ht => ?_) ⟨h4.h, fun k' b' a' h' => ?_⟩
    · obtain ⟨r1, r2, r3⟩ := retL_mem.1 hr
      unfold enterR
      split
      · rename_i hst
        refine fold_snd _ _ (fun f hf u hu => ?_) ht
        refine spread_ret ho r1 r2 he ?_ hst (ht.h _ _ _ (elems_mem.1 hf).2) hu
        have := ho.edge hk
        omega
      · exact ht
    · simp [St.ent] at h'
      rcases h' with h' | ⟨rfl, rfl, rfl⟩
      · exact h4.e _ _ _ h'
      · exact he
theorem leave_snd {p : Pb} (ho : Ok p) {n b d : Nat} (_hn : n < p.ns.length) (hp : PE p b n d) {s : St} (h : Snd p s) : Snd p (leave p n b d s) := by
  refine fold_snd _ s (fun k hk t ht => ?_) h
  obtain ⟨k1, k2, k3⟩ := callL_mem.1 hk
  refine fold_snd _ t (fun r hr u hu => ?_) ht
  obtain ⟨r1, r2, r3⟩ := retL_mem.1 hr
  unfold leaveR
  split
  · rename_i hrn
    refine fold_snd _ u (fun a ha v hv => ?_) hu
    have := ho.edge k1
    refine spread_ret ho r1 r2 (ht.e _ _ _ (elems_mem.1 ha).2) (by omega) (by rw [hrn]; omega) (by rw [hrn]; exact hp) hv
  · exact hu
theorem step_snd {p : Pb} (ho : Ok p) {n a d : Nat} (hp : PE p a n d) {s : St} (h : Snd p s) : Snd p (step p n a d s) := by
  have hn := (hp.rng ho).1
  have h1 : Snd p (stepA p n a d s) := by
    unfold stepA
    split
    · rename_i h0
      obtain ⟨rfl, rfl⟩ := h0
      refine fold_snd _ s (fun x hx t ht => ht.add ?_) h
      obtain ⟨h2, h3⟩ := seedL_mem.1 hx
      have e : x.n.toNat = n := by omega
      have := PE.seed (p := p) (s := x) (by rw [e]; exact hp) h2
      rw [e] at this
      exact this
    · exact h
  have h2 : Snd p ((outL p n).foldl (stepE p a d) (stepA p n a d s)) := by
    refine fold_snd _ _ (fun k hk t ht => ?_) h1
    obtain ⟨k1, k2⟩ := outL_mem.1 hk
    have hp' : PE p a (ge p.es k).a.toNat d := by rw [k2, Int.toNat_natCast]; exact hp
    unfold stepE
    split
    · rename_i h3; exact spread_flow ho k1 h3 hp' ht
    · split
      · rename_i h3; exact enter_snd ho k1 h3 hp' ht
      · exact ht
  unfold step
  split
  · exact leave_snd ho hn hp h2
  · exact h2
/-- What follows from the edges that are done. -/
structure Cp (p : Pb) (s : St) (D : Nat → Nat → Nat → Prop) : Prop where
  seed : ∀ n, D n 0 0 → ∀ x ∈ p.sd, x.n = n → s.h n 0 x.f.toNat = true
  flow : ∀ n a d, D n a d → ∀ k, k < p.es.length → ((ge p.es k).k = 1 ∨ (ge p.es k).k = 5) → (ge p.es k).a = n → ∀ q ∈ gf p.fl k, q.i = d → s.h (ge p.es k).b.toNat a q.o.toNat = true
  call : ∀ n a d, D n a d → ∀ k, k < p.es.length → (ge p.es k).k = 2 → (ge p.es k).a = n → ∀ q ∈ gf p.fl k, q.i = d → s.h (ge p.es k).b.toNat q.o.toNat q.o.toNat = true ∧ s.e k q.o.toNat a = true
  ret : ∀ k b a, s.e k b a = true → ∀ r, r < p.es.length → ((ge p.es r).k = 3 ∨ (ge p.es r).k = 4) → (ge p.es r).c = (ge p.es k).a → stOf p.ns (ge p.es r).a.toNat = (ge p.es k).b.toNat → ∀ d, D (ge p.es r).a.toNat b d → ∀ q ∈ gf p.fl r, q.i = d → s.h (ge p.es r).b.toNat a q.o.toNat = true
/-- The part of a state that is done: held, and not pending. -/
def Dn (s : St) (n : Nat) (rest : List (Nat × Nat)) (n' a d : Nat) : Prop := s.h n' a d = true ∧ (a, d) ∉ s.pd n' ∧ ¬ (n' = n ∧ (a, d) ∈ rest)
/-- The rule of returns alone, for all that is done but one. -/
def CpR (p : Pb) (s : St) (D : Nat → Nat → Nat → Prop) : Prop := ∀ k b a, s.e k b a = true → ∀ r, r < p.es.length → ((ge p.es r).k = 3 ∨ (ge p.es r).k = 4) → (ge p.es r).c = (ge p.es k).a → stOf p.ns (ge p.es r).a.toNat = (ge p.es k).b.toNat → ∀ d, D (ge p.es r).a.toNat b d → ∀ q ∈ gf p.fl r, q.i = d → s.h (ge p.es r).b.toNat a q.o.toNat = true
/-- A state that enters nothing new keeps the rule. -/
theorem CpR.mono {p : Pb} {s t : St} {D : Nat → Nat → Nat → Prop} (h : CpR p s D) (hl : Le s t) (he : t.e = s.e) : CpR p t D := fun k b a hk r r1 r2 r3 r4 d hd q hq hi => hl.h _ _ _ (h k b a (by rw [← he]; exact hk) r r1 r2 r3 r4 d hd q hq hi)
theorem fold_e {α : Type} {f : St → α → St} (hf : ∀ s x, (f s x).e = s.e) : ∀ (l : List α) (s : St), (l.foldl f s).e = s.e
  | [], _ => rfl
  | x :: l, s => (fold_e hf l _).trans (hf s x)
theorem St.add_e (s : St) (n a d : Nat) : (s.add n a d).e = s.e := by unfold St.add; split <;> rfl
theorem spread_e (p : Pb) (k a d : Nat) (s : St) : (spread p k a d s).e = s.e := fold_e (fun s _q => s.add_e _ _ _) _ s
theorem enterR_e (p : Pb) (k a b : Nat) (s : St) (r : Nat) : (enterR p k a b s r).e = s.e := by
  unfold enterR
  split
  · exact fold_e (fun s f => spread_e p r a f s) _ s
  · rfl
theorem leave1_e (p : Pb) (n b d : Nat) (s : St) (k : Nat) : (leave1 p n b d s k).e = s.e := by
  refine fold_e (fun s r => ?_) _ s
  unfold leaveR
  split
  · exact fold_e (fun s a => spread_e p r a d s) _ s
  · rfl
/-- Entering keeps the rule of returns, for what is held already. -/
theorem enter1_ret {p : Pb} {F : Nat} (hF : p.F.toNat = F) {k a b : Nat} {s : St} {D : Nat → Nat → Nat → Prop} (hk : k < p.es.length) (ho : Ok p) (hD : ∀ n a d, D n a d → s.h n a d = true ∧ d < F) (h : CpR p s D) : CpR p (enter1 p k a b s) D := by
  have hl := s.add_le (ge p.es k).b.toNat b b
  unfold enter1
  split
  · exact h.mono hl (St.add_e _ _ _ _)
  · have hl2 := hl.trans (St.ent_le (s.add (ge p.es k).b.toNat b b) k b a)
    have hl3 := hl2.trans (fold_le (enterR_le p k a b) (retL p (ge p.es k).a.toNat) _)
    intro k' b' a' he r r1 r2 r3 r4 d hd q hq hi
    rw [fold_e (enterR_e p k a b)] at he
    have he' : s.e k' b' a' = true ∨ (k' = k ∧ b' = b ∧ a' = a) := by
      simp [St.ent, St.add_e] at he
      exact he
    rcases he' with he' | ⟨rfl, rfl, rfl⟩
    · exact hl3.h _ _ _ (h k' b' a' he' r r1 r2 r3 r4 d hd q hq hi)
    · have h1 := ho.edge hk
      refine fold_has (enterR_le p k' a' b') (Q := fun t => t.h (ge p.es r).b.toNat a' q.o.toNat = true) (fun _ _ h hq => h.h _ _ _ hq) (x := r) _ _ (retL_mem.2 ⟨r1, r2, by omega⟩) (fun t ht => ?_)
      unfold enterR
      rw [if_pos r4]
      refine fold_has (fun s f => spread_le p r a' f s) (Q := fun t => t.h (ge p.es r).b.toNat a' q.o.toNat = true) (fun _ _ h hq => h.h _ _ _ hq) (x := d) _ _ (elems_mem.2 ⟨?_, ht.h _ _ _ (hl2.h _ _ _ (hD _ _ _ hd).1)⟩) (fun u _ => spread_has hq hi u)
      rw [hF]
      exact (hD _ _ _ hd).2
theorem fold_keep {α : Type} {f : St → α → St} {Q : St → Prop} : ∀ (l : List α) (s : St), (∀ x ∈ l, ∀ t, Q t → Q (f t x)) → Q s → Q (l.foldl f s)
  | [], _, _, h => h
  | x :: l, s, hf, h => fold_keep l _ (fun y hy => hf y (by simp [hy])) (hf x (by simp) s h)
/-- Callers are facts, entered edges are calls. -/
theorem step_ent {p : Pb} {n a d : Nat} (haF : (a : Int) < p.F) {s s1 s2 : St} (hS : ∀ k b a, s.e k b a = true → a < p.F.toNat ∧ k < p.es.length ∧ (ge p.es k).k = 2) (e1 : stepA p n a d s = s1) (e2 : (outL p n).foldl (stepE p a d) s1 = s2) :
    ∀ k b a, s2.e k b a = true → a < p.F.toNat ∧ k < p.es.length ∧ (ge p.es k).k = 2 := by
  have s1e : s1.e = s.e := by
    rw [← e1]
    unfold stepA
    split
    · exact fold_e (fun s x => s.add_e _ _ _) _ s
    · rfl
  rw [← e2]
  refine fold_keep (Q := fun t => ∀ k b a, t.e k b a = true → a < p.F.toNat ∧ k < p.es.length ∧ (ge p.es k).k = 2) _ s1 (fun k' hk' t ht => ?_) (by rw [s1e]; exact hS)
  unfold stepE
  split
  · rw [spread_e]; exact ht
  · split
    · rename_i hk2'
      refine fold_keep (Q := fun t => ∀ k b a, t.e k b a = true → a < p.F.toNat ∧ k < p.es.length ∧ (ge p.es k).k = 2) _ t (fun q' _ u hu => ?_) ht
      unfold enter1
      split
      · rw [St.add_e]; exact hu
      · rw [fold_e (enterR_e p k' a _)]
        intro k'' b'' a'' h''
        simp [St.ent, St.add_e] at h''
        rcases h'' with h'' | ⟨rfl, -, rfl⟩
        · exact hu _ _ _ h''
        · exact ⟨by omega, (outL_mem.1 hk').1, hk2'⟩
    · exact ht
theorem step_ent_all {p : Pb} {n a d : Nat} (haF : (a : Int) < p.F) {s : St} (hS : ∀ k b a, s.e k b a = true → a < p.F.toNat ∧ k < p.es.length ∧ (ge p.es k).k = 2) :
    ∀ k b a', (step p n a d s).e k b a' = true → a' < p.F.toNat ∧ k < p.es.length ∧ (ge p.es k).k = 2 := by
  have h := step_ent (n := n) (d := d) haF hS rfl rfl
  unfold step
  split
  · intro k b a' hk
    refine h k b a' ?_
    unfold leave at hk
    rw [fold_e (leave1_e p n a d)] at hk
    exact hk
  · exact h
/-- A step does what follows from its edge, and keeps the rest. -/
theorem step_cp {p : Pb} (ho : Ok p) {n a d : Nat} (hn : n < p.ns.length) (hdF : (d : Int) < p.F) (haF : (a : Int) < p.F) {s : St} {D : Nat → Nat → Nat → Prop} (hD : ∀ n a d, D n a d → s.h n a d = true ∧ d < p.F.toNat) (hS : ∀ k b a, s.e k b a = true → a < p.F.toNat ∧ k < p.es.length ∧ (ge p.es k).k = 2) (h : Cp p s D) (D' : Nat → Nat → Nat → Prop) (hD' : ∀ x y z, D' x y z → D x y z ∨ (x = n ∧ y = a ∧ z = d)) :
    Cp p (step p n a d s) D' := by
  -- the states on the way
  obtain ⟨s1, e1⟩ : ∃ s1, stepA p n a d s = s1 := ⟨_, rfl⟩
  obtain ⟨s2, e2⟩ : ∃ s2, (outL p n).foldl (stepE p a d) s1 = s2 := ⟨_, rfl⟩
  obtain ⟨s3, e3⟩ : ∃ s3, step p n a d s = s3 := ⟨_, rfl⟩
  have l1 : Le s s1 := by rw [← e1]; exact stepA_le p n a d s
  have l2 : Le s1 s2 := by rw [← e2]; exact fold_le (stepE_le p a d) _ _
  have l3 : Le s2 s3 := by
    rw [← e3, ← e2, ← e1]
    unfold step
    split
    · exact leave_le p n a d _
    · exact Le.refl _
  rw [e3]
  have l13 := l1.trans (l2.trans l3)
  -- the rule of returns behind the out edges
  have r2 : CpR p s2 D := by
    have r1 : CpR p s1 D := by
      refine CpR.mono h.ret l1 ?_
      rw [← e1]
      unfold stepA
      split
      · exact fold_e (fun s x => s.add_e _ _ _) _ s
      · rfl
    have hd1 : ∀ n a d, D n a d → s1.h n a d = true ∧ d < p.F.toNat := fun n a d hd => ⟨l1.h _ _ _ (hD _ _ _ hd).1, (hD _ _ _ hd).2⟩
    rw [← e2]
    refine (fold_keep (Q := fun t => Le s1 t ∧ CpR p t D) _ s1 (fun k hk t ht => ?_) ⟨Le.refl _, r1⟩).2
    obtain ⟨k1, k2⟩ := outL_mem.1 hk
    refine ⟨ht.1.trans (stepE_le p a d t k), ?_⟩
    unfold stepE
    split
    · exact ht.2.mono (spread_le p k a d t) (spread_e p k a d t)
    · split
      · refine (fold_keep (Q := fun t => Le s1 t ∧ CpR p t D) _ t (fun q _ u hu => ?_) ht).2
        exact ⟨hu.1.trans (enter1_le p k a _ u), enter1_ret rfl k1 ho (fun n a d hd => ⟨hu.1.h _ _ _ (hd1 _ _ _ hd).1, (hd1 _ _ _ hd).2⟩) hu.2⟩
      · exact ht.2
  have e23 : s3.e = s2.e := by
    rw [← e3, ← e2, ← e1]
    unfold step
    split
    · exact fold_e (leave1_e p n a d) _ _
    · rfl
  refine ⟨fun m hm x hx hxm => ?_, fun m b c hm k k1 k2 k3 q hq hi => ?_, fun m b c hm k k1 k2 k3 q hq hi => ?_, fun k b c hk r r1 r2' r3 r4 f hf q hq hi => ?_⟩
  · rcases hD' _ _ _ hm with hm | ⟨rfl, rfl, rfl⟩
    · exact l13.h _ _ _ (h.seed m hm x hx hxm)
    · refine (l2.trans l3).h _ _ _ ?_
      rw [← e1]
      unfold stepA
      rw [if_pos ⟨rfl, rfl⟩]
      exact fold_has (fun s x => s.add_le _ _ _) (Q := fun t => t.h m 0 x.f.toNat = true) (fun _ _ h hq => h.h _ _ _ hq) (x := x) _ s (seedL_mem.2 ⟨hx, hxm⟩) (fun t _ => St.add_has t _ _ _)
  · rcases hD' _ _ _ hm with hm | ⟨rfl, rfl, rfl⟩
    · exact l13.h _ _ _ (h.flow m b c hm k k1 k2 k3 q hq hi)
    · refine l3.h _ _ _ ?_
      rw [← e2]
      refine fold_has (stepE_le p b c) (Q := fun t => t.h (ge p.es k).b.toNat b q.o.toNat = true) (fun _ _ h hq => h.h _ _ _ hq) (x := k) _ s1 (outL_mem.2 ⟨k1, k3⟩) (fun t _ => ?_)
      unfold stepE
      rw [if_pos k2]
      exact spread_has hq hi t
  · rcases hD' _ _ _ hm with hm | ⟨rfl, rfl, rfl⟩
    · exact ⟨l13.h _ _ _ (h.call m b c hm k k1 k2 k3 q hq hi).1, l13.e _ _ _ (h.call m b c hm k k1 k2 k3 q hq hi).2⟩
    · have : s2.h (ge p.es k).b.toNat q.o.toNat q.o.toNat = true ∧ s2.e k q.o.toNat b = true := by
        rw [← e2]
        refine fold_has (stepE_le p b c) (Q := fun t => t.h (ge p.es k).b.toNat q.o.toNat q.o.toNat = true ∧ t.e k q.o.toNat b = true) (fun _ _ h hq => ⟨h.h _ _ _ hq.1, h.e _ _ _ hq.2⟩) (x := k) _ s1 (outL_mem.2 ⟨k1, k3⟩) (fun t _ => ?_)
        unfold stepE
        rw [if_neg (by omega), if_pos k2]
        refine fold_has (fun s q => enter1_le p k b _ s) (Q := fun t => t.h (ge p.es k).b.toNat q.o.toNat q.o.toNat = true ∧ t.e k q.o.toNat b = true) (fun _ _ h hq => ⟨h.h _ _ _ hq.1, h.e _ _ _ hq.2⟩) (x := q) _ t (mem_froms.2 ⟨hq, hi⟩) (fun u _ => ?_)
        unfold enter1
        split
        · rename_i h9; exact ⟨St.add_has _ _ _ _, h9⟩
        · have l9 := fold_le (enterR_le p k b q.o.toNat) (retL p (ge p.es k).a.toNat) ((u.add (ge p.es k).b.toNat q.o.toNat q.o.toNat).ent k q.o.toNat b)
          exact ⟨l9.h _ _ _ (St.add_has _ _ _ _), l9.e _ _ _ (by simp [St.ent])⟩
      exact ⟨l3.h _ _ _ this.1, l3.e _ _ _ this.2⟩
  · rw [e23] at hk
    rcases hD' _ _ _ hf with hf | ⟨h5, h6, h7⟩
    · exact l3.h _ _ _ (r2 k b c hk r r1 r2' r3 r4 f hf q hq hi)
    · -- the edge itself: leave has passed it on
      subst h6 h7
      have hrk := ho.ret r1 r2'
      rw [h5] at hrk r4
      have hc : c < p.F.toNat ∧ k < p.es.length ∧ (ge p.es k).k = 2 := step_ent (s := s) haF hS e1 e2 _ _ _ hk
      have hke : k < p.es.length ∧ (ge p.es k).k = 2 ∧ 0 ≤ (ge p.es k).b ∧ 0 ≤ (ge p.es k).a := ⟨hc.2.1, hc.2.2, (ho.edge hc.2.1).2.2.1, (ho.edge hc.2.1).1⟩
      have hc := hc.1
      rw [← e3]
      unfold step
      rw [if_pos hrk, e1, e2]
      refine fold_has (leave1_le p n b f) (Q := fun t => t.h (ge p.es r).b.toNat c q.o.toNat = true) (fun _ _ h hq => h.h _ _ _ hq) (x := k) _ s2 (callL_mem.2 ⟨hke.1, hke.2.1, by omega⟩) (fun t ht => ?_)
      refine fold_has (leaveR_le p n f _) (Q := fun t => t.h (ge p.es r).b.toNat c q.o.toNat = true) (fun _ _ h hq => h.h _ _ _ hq) (x := r) _ t (retL_mem.2 ⟨r1, r2', by omega⟩) (fun u _ => ?_)
      unfold leaveR
      rw [if_pos h5]
      refine fold_has (fun s a => spread_le p r a f s) (Q := fun t => t.h (ge p.es r).b.toNat c q.o.toNat = true) (fun _ _ h hq => h.h _ _ _ hq) (x := c) _ u (elems_mem.2 ⟨hc, ?_⟩) (fun v _ => spread_has hq hi v)
      exact ht.e _ _ _ hk
end If
end Go.Df
/- The tabulation of the program runs out, and then holds the path edges. No program in sight. -/
namespace Go.Df
open Go.RowKit
namespace If
open Sp
/-- The state's shape: what is pending is held, the queue has the nodes with pending pairs. -/
structure Wf (p : Pb) (s : St) : Prop where
  rng : ∀ n a d, s.h n a d = true → n < p.ns.length ∧ a < p.F.toNat ∧ d < p.F.toNat
  ph : ∀ n x, x ∈ s.pd n → s.h n x.1 x.2 = true
  nd : ∀ n, (s.pd n).Nodup
  qn : s.q.Nodup
  qp : ∀ n, n ∈ s.q ↔ s.pd n ≠ []
  ee : ∀ k b a, s.e k b a = true → a < p.F.toNat ∧ k < p.es.length ∧ (ge p.es k).k = 2
theorem Wf.add {p : Pb} {s : St} (h : Wf p s) {n a d : Nat} (hn : n < p.ns.length) (ha : a < p.F.toNat) (hd : d < p.F.toNat) : Wf p (s.add n a d) := by
  unfold St.add
  split
  · exact h
  · rename_i h0
    refine ⟨fun n' a' d' h' => ?_, fun n' x hx => ?_, fun n' => ?_, ?_, fun n' => ?_, h.ee⟩
    · simp at h'
      rcases h' with h' | ⟨rfl, rfl, rfl⟩
      · exact h.rng _ _ _ h'
      · exact ⟨hn, ha, hd⟩
    · dsimp only at hx
      split at hx
      · rename_i e
        subst e
        simp at hx
        rcases hx with hx | rfl
        · simp [h.ph _ _ hx]
        · simp
      · simp [h.ph _ _ hx]
    · dsimp only
      split
      · rename_i e
        subst e
        rw [List.nodup_append]
        refine ⟨h.nd _, by simp, ?_⟩
        intro x hx y hy
        simp at hy
        subst hy
        rintro rfl
        exact h0 (h.ph _ _ hx)
      · exact h.nd _
    · dsimp only
      split
      · rename_i e
        rw [List.nodup_append]
        refine ⟨h.qn, by simp, ?_⟩
        intro x hx y hy
        simp at hy
        subst hy
        rintro rfl
        exact (h.qp _).1 hx e
      · exact h.qn
    · dsimp only
      by_cases e : n' = n
      · subst e
        split
        · simp
        · rename_i e2
          simp [(h.qp n').2 e2]
      · rw [if_neg e]
        split
        · rw [List.mem_append, h.qp]
          simp [e]
        · exact h.qp _
theorem Wf.ent {p : Pb} {s : St} (h : Wf p s) {k b a : Nat} (ha : a < p.F.toNat) (hk : k < p.es.length) (hk2 : (ge p.es k).k = 2) : Wf p (s.ent k b a) := by
  refine ⟨h.rng, h.ph, h.nd, h.qn, h.qp, fun k' b' a' h' => ?_⟩
  simp [St.ent] at h'
  rcases h' with h' | ⟨rfl, rfl, rfl⟩
  · exact h.ee _ _ _ h'
  · exact ⟨ha, hk, hk2⟩
theorem spread_wf {p : Pb} (ho : Ok p) {k a d : Nat} (hk : k < p.es.length) (ha : a < p.F.toNat) {s : St} (h : Wf p s) : Wf p (spread p k a d s) := by
  refine fold_keep (Q := Wf p) _ s (fun q hq t ht => ?_) h
  have h1 := ho.pair (by rw [ho.len]; exact hk) (mem_froms.1 hq).1
  have h2 := ho.edge hk
  exact ht.add (by omega) ha (by omega)
theorem enter1_wf {p : Pb} (ho : Ok p) {k a b : Nat} (hk : k < p.es.length) (hk2 : (ge p.es k).k = 2) (ha : a < p.F.toNat) (hb : b < p.F.toNat) {s : St} (h : Wf p s) : Wf p (enter1 p k a b s) := by
  have h2 := ho.edge hk
  have h4 : Wf p (s.add (ge p.es k).b.toNat b b) := h.add (by omega) hb hb
  unfold enter1
  split
  · exact h4
  · refine fold_keep (Q := Wf p) _ _ (fun r hr t ht => ?_) (h4.ent ha hk hk2)
    unfold enterR
    split
    · exact fold_keep (Q := Wf p) _ t (fun f _ u hu => spread_wf ho (retL_mem.1 hr).1 ha hu) ht
    · exact ht
theorem step_wf {p : Pb} (ho : Ok p) {n a d : Nat} (hn : n < p.ns.length) (ha : a < p.F.toNat) {s : St} (h : Wf p s) : Wf p (step p n a d s) := by
  have f1 := ho.f1
  have h1 : Wf p (stepA p n a d s) := by
    unfold stepA
    split
    · refine fold_keep (Q := Wf p) _ s (fun x hx t ht => ?_) h
      have := ho.seed (seedL_mem.1 hx).1
      exact ht.add hn (by omega) (by omega)
    · exact h
  have h2 : Wf p ((outL p n).foldl (stepE p a d) (stepA p n a d s)) := by
    refine fold_keep (Q := Wf p) _ _ (fun k hk t ht => ?_) h1
    unfold stepE
    split
    · exact spread_wf ho (outL_mem.1 hk).1 ha ht
    · split
      · rename_i hk2
        refine fold_keep (Q := Wf p) _ t (fun q hq u hu => ?_) ht
        have h1 := ho.pair (by rw [ho.len]; exact (outL_mem.1 hk).1) (mem_froms.1 hq).1
        exact enter1_wf ho (outL_mem.1 hk).1 hk2 ha (by omega) hu
      · exact ht
  unfold step
  split
  · refine fold_keep (Q := Wf p) _ _ (fun k hk t ht => ?_) h2
    refine fold_keep (Q := Wf p) _ t (fun r hr u hu => ?_) ht
    unfold leaveR
    split
    · exact fold_keep (Q := Wf p) _ u (fun a' ha' v hv => spread_wf ho (retL_mem.1 hr).1 (elems_mem.1 ha').1 hv) hu
    · exact hu
  · exact h2
/-- How much is not held yet. -/
def trip (N F : Nat) : List (Nat × Nat × Nat) := (List.range N).flatMap fun n => (List.range F).flatMap fun a => (List.range F).map fun d => (n, a, d)
theorem mem_trip {N F n a d : Nat} : (n, a, d) ∈ trip N F ↔ n < N ∧ a < F ∧ d < F := by
  simp only [trip, List.mem_flatMap, List.mem_map, List.mem_range, Prod.mk.injEq]
  constructor
  · rintro ⟨_, h1, _, h2, _, h3, rfl, rfl, rfl⟩; exact ⟨h1, h2, h3⟩
  · rintro ⟨h1, h2, h3⟩; exact ⟨n, h1, a, h2, d, h3, rfl, rfl, rfl⟩
theorem countP_lt {α : Type} {P Q : α → Bool} (hPQ : ∀ x, P x = true → Q x = true) {y : α} (hQ : Q y = true) (hP : P y = false) : ∀ (l : List α), y ∈ l → l.countP P < l.countP Q
  | x :: l, hy => by
    have hm : l.countP P ≤ l.countP Q := List.countP_mono_left fun z _ h => hPQ z h
    rw [List.countP_cons, List.countP_cons]
    rcases List.mem_cons.1 hy with rfl | hy
    · rw [hQ, hP]; simp; omega
    · have := countP_lt hPQ hQ hP l hy
      by_cases h1 : P x = true
      · rw [h1, hPQ x h1]; simp; omega
      · simp at h1
        rw [h1]
        simp
        omega
def unh (p : Pb) (s : St) : Nat := (trip p.ns.length p.F.toNat).countP fun x => !s.h x.1 x.2.1 x.2.2
def mea (p : Pb) (s : St) : Nat := 2 * unh p s + s.q.length
theorem unh_add {p : Pb} {s : St} {n a d : Nat} (hn : n < p.ns.length) (ha : a < p.F.toNat) (hd : d < p.F.toNat) (h0 : s.h n a d = false) : unh p (s.add n a d) < unh p s := by
  unfold unh
  refine countP_lt (y := (n, a, d)) (fun x hx => ?_) (by simp [h0]) ?_ _ (mem_trip.2 ⟨hn, ha, hd⟩)
  · have h1 := (s.add_le n a d).h x.1 x.2.1 x.2.2
    cases hh : s.h x.1 x.2.1 x.2.2 with
    | false => rfl
    | true => rw [h1 hh] at hx; cases hx
  · simp [St.add_has]
theorem q_add (s : St) (n a d : Nat) : (s.add n a d).q.length ≤ s.q.length + 1 := by
  unfold St.add
  split
  · omega
  · dsimp only
    split
    · simp
    · omega
theorem mea_add {p : Pb} {s : St} {n a d : Nat} (hn : n < p.ns.length) (ha : a < p.F.toNat) (hd : d < p.F.toNat) : mea p (s.add n a d) ≤ mea p s := by
  cases h0 : s.h n a d with
  | true => unfold St.add; rw [if_pos h0]; exact Nat.le_refl _
  | false =>
    have h1 := unh_add hn ha hd h0
    have h2 := q_add s n a d
    unfold mea
    omega
theorem mea_ent {p : Pb} {s : St} {k b a : Nat} : mea p (s.ent k b a) = mea p s := rfl
theorem fold_mea {p : Pb} {α : Type} {f : St → α → St} (l : List α) (s : St) (h : ∀ x ∈ l, ∀ t, mea p (f t x) ≤ mea p t) : mea p (l.foldl f s) ≤ mea p s :=
  fold_keep (Q := fun t => mea p t ≤ mea p s) l s (fun x hx t ht => Nat.le_trans (h x hx t) ht) (Nat.le_refl _)
theorem spread_mea {p : Pb} (ho : Ok p) {k a d : Nat} (hk : k < p.es.length) (ha : a < p.F.toNat) (s : St) : mea p (spread p k a d s) ≤ mea p s := by
  refine fold_mea _ s (fun q hq t => ?_)
  have h1 := ho.pair (by rw [ho.len]; exact hk) (mem_froms.1 hq).1
  have h2 := ho.edge hk
  exact mea_add (by omega) ha (by omega)
theorem enter1_mea {p : Pb} (ho : Ok p) {k a b : Nat} (hk : k < p.es.length) (ha : a < p.F.toNat) (hb : b < p.F.toNat) (s : St) : mea p (enter1 p k a b s) ≤ mea p s := by
  have h2 := ho.edge hk
  have h4 : mea p (s.add (ge p.es k).b.toNat b b) ≤ mea p s := mea_add (by omega) hb hb
  unfold enter1
  split
  · exact h4
  · refine Nat.le_trans (fold_mea _ _ (fun r hr t => ?_)) h4
    unfold enterR
    split
    · exact fold_mea _ t (fun f _ u => spread_mea ho (retL_mem.1 hr).1 ha u)
    · exact Nat.le_refl _
theorem step_mea {p : Pb} (ho : Ok p) {n a d : Nat} (hn : n < p.ns.length) (ha : a < p.F.toNat) (s : St) : mea p (step p n a d s) ≤ mea p s := by
  have f1 := ho.f1
  have h1 : mea p (stepA p n a d s) ≤ mea p s := by
    unfold stepA
    split
    · refine fold_mea _ s (fun x hx t => ?_)
      have := ho.seed (seedL_mem.1 hx).1
      exact mea_add hn (by omega) (by omega)
    · exact Nat.le_refl _
  have h2 : mea p ((outL p n).foldl (stepE p a d) (stepA p n a d s)) ≤ mea p s := by
    refine Nat.le_trans (fold_mea _ _ (fun k hk t => ?_)) h1
    unfold stepE
    split
    · exact spread_mea ho (outL_mem.1 hk).1 ha t
    · split
      · refine fold_mea _ t (fun q hq u => ?_)
        have h1 := ho.pair (by rw [ho.len]; exact (outL_mem.1 hk).1) (mem_froms.1 hq).1
        exact enter1_mea ho (outL_mem.1 hk).1 ha (by omega) u
      · exact Nat.le_refl _
  unfold step
  split
  · refine Nat.le_trans (fold_mea _ _ (fun k hk t => ?_)) h2
    refine fold_mea _ t (fun r hr u => ?_)
    unfold leaveR
    split
    · exact fold_mea _ u (fun a' ha' v => spread_mea ho (retL_mem.1 hr).1 (elems_mem.1 ha').1 v)
    · exact Nat.le_refl _
  · exact h2
/-- A node is taken from the queue, with its pending pairs. -/
def popS (s : St) (n : Nat) (r : List Nat) : St := ⟨s.h, s.e, fun n' => if n' = n then [] else s.pd n', r⟩
def batch (p : Pb) (n : Nat) (l : List (Nat × Nat)) (s : St) : St := l.foldl (fun s x => step p n x.1 x.2 s) s
def init (p : Pb) : St := (St.add ⟨fun _ _ _ => false, fun _ _ _ => false, fun _ => [], []⟩ p.mn.toNat 0 0)
/-- The invariant of the tabulation, with the rest of a node's batch. -/
structure Inv (p : Pb) (n : Nat) (rest : List (Nat × Nat)) (s : St) : Prop where
  wf : Wf p s
  snd : Snd p s
  cp : Cp p s (Dn s n rest)
  main : s.h p.mn.toNat 0 0 = true
  rs : ∀ x ∈ rest, s.h n x.1 x.2 = true
theorem Wf.pop {p : Pb} {s : St} (h : Wf p s) {n : Nat} {r : List Nat} (hq : s.q = n :: r) : Wf p (popS s n r) := by
  have hn := h.qn
  rw [hq, List.nodup_cons] at hn
  refine ⟨h.rng, fun n' x hx => ?_, fun n' => ?_, hn.2, fun n' => ?_, h.ee⟩
  · dsimp only [popS] at hx
    split at hx
    · cases hx
    · exact h.ph _ _ hx
  · dsimp only [popS]
    split
    · exact List.nodup_nil
    · exact h.nd _
  · dsimp only [popS]
    have h1 := h.qp n'
    rw [hq, List.mem_cons] at h1
    by_cases e : n' = n
    · subst e
      simp [hn.1]
    · rw [if_neg e, ← h1]
      simp [e]
theorem Inv.pop {p : Pb} {s : St} {n0 : Nat} (h : Inv p n0 [] s) {n : Nat} {r : List Nat} (hq : s.q = n :: r) : Inv p n (s.pd n) (popS s n r) := by
  refine ⟨h.wf.pop hq, ⟨h.snd.h, h.snd.e⟩, ?_, h.main, fun x hx => h.wf.ph _ _ hx⟩
  have hD : ∀ x y z, Dn (popS s n r) n (s.pd n) x y z → Dn s n0 [] x y z := fun x y z hd => by
    refine ⟨hd.1, fun hm => ?_, fun hm => by cases hm.2⟩
    by_cases e : x = n
    · subst e; exact hd.2.2 ⟨rfl, hm⟩
    · exact hd.2.1 (by dsimp only [popS]; rw [if_neg e]; exact hm)
  exact ⟨fun m hm => h.cp.seed m (hD _ _ _ hm), fun m b c hm => h.cp.flow m b c (hD _ _ _ hm), fun m b c hm => h.cp.call m b c (hD _ _ _ hm), fun k b a hk r' r1 r2 r3 r4 d hd => h.cp.ret k b a hk r' r1 r2 r3 r4 d (hD _ _ _ hd)⟩
theorem Inv.step {p : Pb} (ho : Ok p) {s : St} {n a d : Nat} {rest : List (Nat × Nat)} (h : Inv p n ((a, d) :: rest) s) : Inv p n rest (step p n a d s) := by
  have hh := h.rs (a, d) (by simp)
  have hr := h.wf.rng _ _ _ hh
  have hp := h.snd.h _ _ _ hh
  have hl := step_le p n a d s
  have f1 := ho.f1
  refine ⟨step_wf ho hr.1 hr.2.1 h.wf, step_snd ho hp h.snd, ?_, hl.h _ _ _ h.main, fun x hx => hl.h _ _ _ (h.rs x (by simp [hx]))⟩
  refine step_cp ho hr.1 (by omega) (by omega) (D := Dn s n ((a, d) :: rest)) (fun n a d hd => ⟨hd.1, (h.wf.rng _ _ _ hd.1).2.2⟩) h.wf.ee h.cp _ ?_
  intro x y z hd
  have h1 : s.h x y z = true := by
    rcases hl.new _ _ _ hd.1 with h1 | h1
    · exact h1
    · exact absurd h1 hd.2.1
  by_cases e : x = n ∧ y = a ∧ z = d
  · exact .inr e
  · refine .inl ⟨h1, fun hm => hd.2.1 (hl.pd _ _ hm), fun hm => ?_⟩
    rcases List.mem_cons.1 hm.2 with h2 | h2
    · injection h2 with h3 h4
      exact e ⟨hm.1, h3, h4⟩
    · exact hd.2.2 ⟨hm.1, h2⟩
theorem Inv.rest {p : Pb} {s : St} {n : Nat} (h : Inv p n [] s) (m : Nat) : Inv p m [] s := by
  have hD : ∀ x y z, Dn s m [] x y z → Dn s n [] x y z := fun x y z hd => ⟨hd.1, hd.2.1, fun hm => by cases hm.2⟩
  exact ⟨h.wf, h.snd, ⟨fun m hm => h.cp.seed m (hD _ _ _ hm), fun m b c hm => h.cp.flow m b c (hD _ _ _ hm), fun m b c hm => h.cp.call m b c (hD _ _ _ hm), fun k b a hk r' r1 r2 r3 r4 d hd => h.cp.ret k b a hk r' r1 r2 r3 r4 d (hD _ _ _ hd)⟩, h.main, fun x hx => by cases hx⟩
theorem batch_inv {p : Pb} (ho : Ok p) {n : Nat} : ∀ (l : List (Nat × Nat)) {s : St}, Inv p n l s → Inv p n [] (batch p n l s)
  | [], _, h => h
  | x :: l, s, h => batch_inv ho l (s := If.step p n x.1 x.2 s) (h.step ho)
theorem batch_mea {p : Pb} (ho : Ok p) {n : Nat} : ∀ (l : List (Nat × Nat)) {s : St}, Inv p n l s → mea p (batch p n l s) ≤ mea p s
  | [], _, _ => Nat.le_refl _
  | x :: l, s, h => by
    have hr := h.wf.rng _ _ _ (h.rs x (by simp))
    exact Nat.le_trans (batch_mea ho l (s := If.step p n x.1 x.2 s) (h.step ho)) (step_mea ho hr.1 hr.2.1 s)
theorem mea_pop {p : Pb} {s : St} {n : Nat} {r : List Nat} (hq : s.q = n :: r) : mea p (popS s n r) + 1 = mea p s := by
  unfold mea
  rw [hq]
  show 2 * unh p s + r.length + 1 = _
  rw [List.length_cons]
  omega
theorem init_inv {p : Pb} (ho : Ok p) : Inv p 0 [] (init p) := by
  have hm := main_in (sup_parts ho.sup).2.2.1
  have f1 := ho.f1
  have h0 : Wf p ⟨fun _ _ _ => false, fun _ _ _ => false, fun _ => [], []⟩ := ⟨by simp, by simp, by simp, by simp, by simp, by simp⟩
  have s0 : Snd p ⟨fun _ _ _ => false, fun _ _ _ => false, fun _ => [], []⟩ := ⟨by simp, by simp⟩
  have hd : ∀ x y z, ¬ Dn (init p) 0 [] x y z := by
    rintro x y z ⟨h1, h2, -⟩
    unfold init St.add at h1 h2
    simp at h1 h2
    obtain ⟨rfl, rfl, rfl⟩ := h1
    simp at h2
  have he : ∀ k b a, (init p).e k b a = false := by
    intro k b a
    unfold init
    rw [St.add_e]
  refine ⟨h0.add (by omega) (by omega) (by omega), s0.add .main, ⟨fun m hm => absurd hm (hd _ _ _), fun m b c hm => absurd hm (hd _ _ _), fun m b c hm => absurd hm (hd _ _ _), fun k b a hk => by rw [he] at hk; cases hk⟩, St.add_has _ _ _ _, fun x hx => by cases hx⟩
/-- Where the queue is empty, what is held is the path edges. -/
theorem Inv.done {p : Pb} (ho : Ok p) {s : St} {n : Nat} (h : Inv p n [] s) (hq : s.q = []) (a m d : Nat) : s.h m a d = true ↔ PE p a m d := by
  have hpd : ∀ n, s.pd n = [] := fun n => Decidable.byContradiction fun hh => by
    have := (h.wf.qp n).2 hh
    rw [hq] at this
    cases this
  have hD : ∀ x y z, s.h x y z = true → Dn s n [] x y z := fun x y z hh => ⟨hh, by rw [hpd]; simp, fun hm => by cases hm.2⟩
  refine ⟨h.snd.h _ _ _, ?_⟩
  refine Clo.all (T := fun a n d => s.h n a d = true) ⟨h.main, ?_, ?_, ?_, ?_⟩
  · intro x hx ht
    have := ho.seed hx
    exact h.cp.seed _ (hD _ _ _ ht) x hx (by omega)
  · intro k hk hk2 q hq' b ht
    have h1 := ho.pair (by rw [ho.len]; exact hk) hq'
    have h2 := ho.edge hk
    exact h.cp.flow _ _ _ (hD _ _ _ ht) k hk hk2 (by omega) q hq' (by omega)
  · intro k hk hk2 q hq' b ht
    have h1 := ho.pair (by rw [ho.len]; exact hk) hq'
    have h2 := ho.edge hk
    exact (h.cp.call _ _ _ (hD _ _ _ ht) k hk hk2 (by omega) q hq' (by omega)).1
  · intro c hc hc2 q hq' r hr hr2 t ht' e1 e2 b hb hb2
    have h1 := ho.pair (by rw [ho.len]; exact hc) hq'
    have h2 := ho.edge hc
    have h3 := ho.pair (by rw [ho.len]; exact hr) ht'
    have h4 := ho.edge hr
    have h5 := (h.cp.call _ _ _ (hD _ _ _ hb) c hc hc2 (by omega) q hq' (by omega)).2
    exact h.cp.ret _ _ _ h5 r hr hr2 e1.symm ((ho.nd.start_iff (by omega) (by omega) (ho.call hc hc2).1).2 e2) _ (hD _ _ _ hb2) t ht' (by omega)
end If
end Go.Df
/- The reference's rounds in plain words, and that they end with the path edges. No program in sight. -/
namespace Go.Df
open Go.RowKit
namespace If
open Sp
/-- A table (node, fact at the start, fact) and whether it has turned. -/
abbrev Tm := (Nat → Nat → Nat → Bool) × Bool
def putT (s : Tm) (n a d : Nat) : Tm := if s.1 n a d = true then s else (fun n' a' d' => s.1 n' a' d' || (n' == n && (a' == a && d' == d)), true)
def up : Nat → (Nat → Tm → Tm) → Tm → Tm
  | 0, _, s => s
  | i + 1, f, s => f i (up i f s)
def seededT (p : Pb) (j : Nat) : Tm → Tm := up j fun i s => if s.1 (gd p.sd i).n.toNat 0 0 = true then putT s (gd p.sd i).n.toNat 0 (gd p.sd i).f.toNat else s
def passedR (p : Pb) (k a j : Nat) : Tm → Tm := up j fun i s => if s.1 (ge p.es k).a.toNat a (gp (gf p.fl k) i).i.toNat = true then putT s (ge p.es k).b.toNat a (gp (gf p.fl k) i).o.toNat else s
def passedT (p : Pb) (k j : Nat) : Tm → Tm := up j fun a => passedR p k a (gf p.fl k).length
def enteredR (p : Pb) (k a j : Nat) : Tm → Tm := up j fun i s => if s.1 (ge p.es k).a.toNat a (gp (gf p.fl k) i).i.toNat = true then putT s (ge p.es k).b.toNat (gp (gf p.fl k) i).o.toNat (gp (gf p.fl k) i).o.toNat else s
def enteredT (p : Pb) (k j : Nat) : Tm → Tm := up j fun a => enteredR p k a (gf p.fl k).length
def throughT (c m d e j : Nat) : Tm → Tm := up j fun a s => if s.1 c a d = true then putT s m a e else s
def retM (p : Pb) (k i j m : Nat) : Tm → Tm := up m fun m s => if s.1 (ge p.es k).a.toNat (gp (gf p.fl i) j).o.toNat (gp (gf p.fl k) m).i.toNat = true then throughT (ge p.es i).a.toNat (ge p.es k).b.toNat (gp (gf p.fl i) j).i.toNat (gp (gf p.fl k) m).o.toNat p.F.toNat s else s
def retJ (p : Pb) (k i j : Nat) : Tm → Tm := up j fun j => retM p k i j (gf p.fl k).length
def retC (p : Pb) (k i : Nat) : Prop := (ge p.es i).k = 2 ∧ (ge p.es i).a = (ge p.es k).c ∧ (gn p.ns (ge p.es i).b.toNat).f = (gn p.ns (ge p.es k).a.toNat).f
instance (p : Pb) (k i : Nat) : Decidable (retC p k i) := by unfold retC; infer_instance
def returnedT (p : Pb) (k j : Nat) : Tm → Tm := up j fun i s => if retC p k i then retJ p k i (gf p.fl i).length s else s
def edgeT (p : Pb) (k : Nat) (s : Tm) : Tm :=
  if (ge p.es k).k = 1 ∨ (ge p.es k).k = 5 then passedT p k p.F.toNat s else if (ge p.es k).k = 2 then enteredT p k p.F.toNat s else returnedT p k p.es.length s
def roundE (p : Pb) (j : Nat) : Tm → Tm := up j (edgeT p)
def roundT (p : Pb) (T : Nat → Nat → Nat → Bool) : Tm := roundE p p.es.length (seededT p p.sd.length (T, false))
/-- The flag is carried along. -/
def Lin (f : Tm → Tm) : Prop := ∀ T m, f (T, m) = ((f (T, false)).1, m || (f (T, false)).2)
theorem Lin.id : Lin fun s => s := fun T m => by simp
theorem Lin.put (n a d : Nat) : Lin fun s => putT s n a d := fun T m => by
  unfold putT
  dsimp only
  split <;> simp
theorem Lin.comp {f g : Tm → Tm} (hf : Lin f) (hg : Lin g) : Lin fun s => f (g s) := fun T m => by
  show f (g (T, m)) = ((f (g (T, false))).1, m || (f (g (T, false))).2)
  rw [hg T m]
  generalize g (T, false) = x
  obtain ⟨x1, x2⟩ := x
  rw [hf x1 x2, hf x1 (m || x2)]
  simp [Bool.or_assoc]
theorem Lin.ite {f : Tm → Tm} (hf : Lin f) (n a d : Nat) : Lin fun s => if s.1 n a d = true then f s else s := fun T m => by
  dsimp only
  split
  · exact hf T m
  · simp
theorem Lin.up {f : Nat → Tm → Tm} (hf : ∀ i, Lin (f i)) : ∀ n, Lin (If.up n f)
  | 0 => Lin.id
  | n + 1 => (hf n).comp (Lin.up hf n)
theorem seeded_lin (p : Pb) (j : Nat) : Lin (seededT p j) := Lin.up (fun _i => (Lin.put _ _ _).ite _ _ _) j
theorem passedR_lin (p : Pb) (k a j : Nat) : Lin (passedR p k a j) := Lin.up (fun _i => (Lin.put _ _ _).ite _ _ _) j
theorem passed_lin (p : Pb) (k j : Nat) : Lin (passedT p k j) := Lin.up (fun i => passedR_lin p k i _) j
theorem enteredR_lin (p : Pb) (k a j : Nat) : Lin (enteredR p k a j) := Lin.up (fun _i => (Lin.put _ _ _).ite _ _ _) j
theorem entered_lin (p : Pb) (k j : Nat) : Lin (enteredT p k j) := Lin.up (fun i => enteredR_lin p k i _) j
theorem through_lin (c m d e j : Nat) : Lin (throughT c m d e j) := Lin.up (fun _i => (Lin.put _ _ _).ite _ _ _) j
theorem retM_lin (p : Pb) (k i j m : Nat) : Lin (retM p k i j m) := Lin.up (fun _ => (through_lin _ _ _ _ _).ite _ _ _) m
theorem retJ_lin (p : Pb) (k i j : Nat) : Lin (retJ p k i j) := Lin.up (fun _ => retM_lin _ _ _ _ _) j
theorem returned_lin (p : Pb) (k j : Nat) : Lin (returnedT p k j) := Lin.up (fun i => by
  by_cases h : retC p k i
  · simp only [if_pos h]; exact retJ_lin _ _ _ _
  · simp only [if_neg h]; exact Lin.id) j
theorem edge_lin (p : Pb) (k : Nat) : Lin (edgeT p k) := by
  unfold edgeT
  split
  · exact passed_lin _ _ _
  · split
    · exact entered_lin _ _ _
    · exact returned_lin _ _ _
/-- Later tables hold more, and the flag tells. -/
structure Rl (p : Pb) (s t : Tm) : Prop where
  le : ∀ n a d, s.1 n a d = true → t.1 n a d = true
  fl : t.2 = false → t = s
  tr : t.2 = true → s.2 = true ∨ ∃ n a d, n < p.ns.length ∧ a < p.F.toNat ∧ d < p.F.toNat ∧ s.1 n a d = false ∧ t.1 n a d = true
theorem Rl.refl (p : Pb) (s : Tm) : Rl p s s := ⟨fun _ _ _ h => h, fun _ => rfl, fun h => .inl h⟩
theorem Rl.trans {p : Pb} {s t u : Tm} (h : Rl p s t) (g : Rl p t u) : Rl p s u := by
  refine ⟨fun n a d x => g.le _ _ _ (h.le _ _ _ x), fun x => ?_, fun x => ?_⟩
  · have h1 := g.fl x
    rw [h1] at x ⊢
    exact h.fl x
  · rcases g.tr x with y | ⟨n, a, d, h1, h2, h3, h4, h5⟩
    · rcases h.tr y with z | ⟨n, a, d, h1, h2, h3, h4, h5⟩
      · exact .inl z
      · exact .inr ⟨n, a, d, h1, h2, h3, h4, g.le _ _ _ h5⟩
    · refine .inr ⟨n, a, d, h1, h2, h3, ?_, h5⟩
      cases hh : s.1 n a d with
      | false => rfl
      | true => rw [h.le _ _ _ hh] at h4; cases h4
theorem Rl.put {p : Pb} {s : Tm} {n a d : Nat} (hn : n < p.ns.length) (ha : a < p.F.toNat) (hd : d < p.F.toNat) : Rl p s (putT s n a d) := by
  unfold putT
  split
  · exact Rl.refl _ _
  · rename_i h0
    exact ⟨fun n' a' d' h => (by simp [h]), fun h => (by cases h), fun _ => .inr ⟨n, a, d, hn, ha, hd, by simpa using h0, by simp⟩⟩
theorem Rl.up {p : Pb} {f : Nat → Tm → Tm} {s : Tm} : ∀ n, (∀ i, i < n → ∀ s, Rl p s (f i s)) → Rl p s (If.up n f s)
  | 0, _ => Rl.refl _ _
  | n + 1, h => (Rl.up n (fun i hi => h i (by omega))).trans (h n (by omega) _)
theorem Rl.ite {p : Pb} {s t : Tm} {c : Prop} [Decidable c] (h : c → Rl p s t) : Rl p s (if c then t else s) := by
  split
  · exact h ‹_›
  · exact Rl.refl _ _
/-- Where nothing has turned, nothing has turned at any step. -/
theorem up_fix {p : Pb} {f : Nat → Tm → Tm} {s : Tm} : ∀ n, (∀ i, i < n → ∀ s, Rl p s (f i s)) → (If.up n f s).2 = false → ∀ i, i < n → f i s = s
  | 0, _, _, i, hi => by omega
  | n + 1, h, hf, i, hi => by
    rw [If.up] at hf
    have h1 := (h n (by omega) (If.up n f s)).fl hf
    rw [h1] at hf
    have h2 := (Rl.up (s := s) n (fun i hi => h i (by omega))).fl hf
    by_cases e : i = n
    · subst e
      rw [h2] at h1
      exact h1
    · exact up_fix n (fun i hi => h i (by omega)) hf i (by omega)
theorem put_fix {s : Tm} {n a d : Nat} (hs : s.2 = false) (h : putT s n a d = s) : s.1 n a d = true := by
  unfold putT at h
  split at h
  · assumption
  · have : (putT s n a d).2 = true := by unfold putT; rw [if_neg ‹_›]
    unfold putT at this
    rw [if_neg ‹_›] at this
    rw [← h] at hs
    cases hs
theorem through_rl {p : Pb} (s : Tm) {c m d e j : Nat} (hm : m < p.ns.length) (he : e < p.F.toNat) (hj : j ≤ p.F.toNat) : Rl p s (throughT c m d e j s) := Rl.up j fun i hi s => Rl.ite fun _ => Rl.put hm (by omega) he
section
variable {p : Pb} (ho : Ok p)
include ho
theorem pr_rng {k i : Nat} (hk : k < p.es.length) (hi : i < (gf p.fl k).length) : (gp (gf p.fl k) i).i.toNat < p.F.toNat ∧ (gp (gf p.fl k) i).o.toNat < p.F.toNat := by
  have := ho.pair (by rw [ho.len]; exact hk) (gp_mem hi)
  omega
theorem sd_rng {i : Nat} (hi : i < p.sd.length) : (gd p.sd i).n.toNat < p.ns.length ∧ (gd p.sd i).f.toNat < p.F.toNat := by
  have := ho.seed (gd_mem hi)
  omega
theorem ed_rng {k : Nat} (hk : k < p.es.length) : (ge p.es k).a.toNat < p.ns.length ∧ (ge p.es k).b.toNat < p.ns.length := by
  have := ho.edge hk
  omega
theorem f_pos : 0 < p.F.toNat := by have := ho.f1; omega
theorem seeded_rl (s : Tm) {j : Nat} (hj : j ≤ p.sd.length) : Rl p s (seededT p j s) := Rl.up j fun i hi s => Rl.ite fun _ => Rl.put (sd_rng ho (by omega)).1 (f_pos ho) (sd_rng ho (by omega)).2
theorem passedR_rl (s : Tm) {k a j : Nat} (hk : k < p.es.length) (ha : a < p.F.toNat) (hj : j ≤ (gf p.fl k).length) : Rl p s (passedR p k a j s) := Rl.up j fun i hi s => Rl.ite fun _ => Rl.put (ed_rng ho hk).2 ha (pr_rng ho hk (by omega)).2
theorem passed_rl (s : Tm) {k j : Nat} (hk : k < p.es.length) (hj : j ≤ p.F.toNat) : Rl p s (passedT p k j s) := Rl.up j fun i hi s => passedR_rl ho s hk (by omega) (Nat.le_refl _)
theorem enteredR_rl (s : Tm) {k a j : Nat} (hk : k < p.es.length) (hj : j ≤ (gf p.fl k).length) : Rl p s (enteredR p k a j s) := Rl.up j fun i hi s => Rl.ite fun _ => Rl.put (ed_rng ho hk).2 (pr_rng ho hk (by omega)).2 (pr_rng ho hk (by omega)).2
theorem entered_rl (s : Tm) {k j : Nat} (hk : k < p.es.length) : Rl p s (enteredT p k j s) := Rl.up j fun _i _hi s => enteredR_rl ho s hk (Nat.le_refl _)
theorem retM_rl (s : Tm) {k i j m : Nat} (hk : k < p.es.length) (hm : m ≤ (gf p.fl k).length) : Rl p s (retM p k i j m s) := Rl.up m fun x hx s => Rl.ite fun _ => through_rl s (ed_rng ho hk).2 (pr_rng ho hk (by omega)).2 (Nat.le_refl _)
theorem retJ_rl (s : Tm) {k i j : Nat} (hk : k < p.es.length) : Rl p s (retJ p k i j s) := Rl.up j fun _x _hx s => retM_rl ho s hk (Nat.le_refl _)
theorem returned_rl (s : Tm) {k j : Nat} (hk : k < p.es.length) : Rl p s (returnedT p k j s) := Rl.up j fun _x _hx s => Rl.ite fun _ => retJ_rl ho s hk
theorem edge_rl (s : Tm) {k : Nat} (hk : k < p.es.length) : Rl p s (edgeT p k s) := by
  unfold edgeT
  split
  · exact passed_rl ho s hk (Nat.le_refl _)
  · split
    · exact entered_rl ho s hk
    · exact returned_rl ho s hk
theorem roundE_rl (s : Tm) {j : Nat} (hj : j ≤ p.es.length) : Rl p s (roundE p j s) := Rl.up j fun i hi s => edge_rl ho s (by omega)
theorem round_rl (T : Nat → Nat → Nat → Bool) : Rl p (T, false) (roundT p T) := (seeded_rl ho _ (Nat.le_refl _)).trans (roundE_rl ho _ (Nat.le_refl _))
end
/-- What is in a table is a path edge. -/
def SndT (p : Pb) (s : Tm) : Prop := ∀ n a d, s.1 n a d = true → PE p a n d
theorem SndT.put {p : Pb} {s : Tm} (h : SndT p s) {n a d : Nat} (hp : PE p a n d) : SndT p (putT s n a d) := by
  unfold putT
  split
  · exact h
  · intro n' a' d' h'
    simp at h'
    rcases h' with h' | ⟨rfl, rfl, rfl⟩
    · exact h _ _ _ h'
    · exact hp
theorem SndT.up {p : Pb} {f : Nat → Tm → Tm} {s : Tm} (hs : SndT p s) : ∀ n, (∀ i, i < n → ∀ s, SndT p s → SndT p (f i s)) → SndT p (If.up n f s)
  | 0, _ => hs
  | n + 1, h => h n (by omega) _ (SndT.up hs n (fun i hi => h i (by omega)))
theorem SndT.ite {p : Pb} {s t : Tm} {c : Prop} [Decidable c] (hs : SndT p s) (h : c → SndT p t) : SndT p (if c then t else s) := by
  split
  · exact h ‹_›
  · exact hs
theorem round_snd {p : Pb} (ho : Ok p) {T : Nat → Nat → Nat → Bool} (h : SndT p (T, false)) : SndT p (roundT p T) := by
  refine SndT.up (SndT.up h _ fun i hi s hs => SndT.ite hs fun hc => hs.put ?_) _ fun k hk s hs => ?_
  · have := ho.seed (gd_mem hi)
    exact .seed (hs _ _ _ hc) (gd_mem hi)
  · unfold edgeT
    split
    · rename_i h1
      exact SndT.up hs _ fun a ha s hs => SndT.up hs _ fun i hi s hs => SndT.ite hs fun hc => hs.put (.flow hk h1 (gp_mem hi) (hs _ _ _ hc))
    · split
      · rename_i h1
        exact SndT.up hs _ fun a ha s hs => SndT.up hs _ fun i hi s hs => SndT.ite hs fun hc => hs.put (.call hk h1 (gp_mem hi) (hs _ _ _ hc))
      · rename_i h1 h2
        have h3 := ho.edge hk
        refine SndT.up hs _ fun i hi s hs => SndT.ite hs fun hc => SndT.up hs _ fun j hj s hs => SndT.up hs _ fun m hm s hs => SndT.ite hs fun hd => SndT.up (p := p) (s := s) hs _ fun a ha t ht => SndT.ite ht fun he => ht.put ?_
        exact .ret hi hc.1 (gp_mem hj) hk (by omega) (gp_mem hm) hc.2.1 hc.2.2 (ht _ _ _ he) (hs _ _ _ hd)
/-- A round that turns nothing: the table is closed. -/
theorem round_clo {p : Pb} (ho : Ok p) {T : Nat → Nat → Nat → Bool} (hm : T p.mn.toNat 0 0 = true) (hs : SndT p (T, false)) (h : (roundT p T).2 = false) : Clo p fun a n d => T n a d = true := by
  have e0 : roundT p T = (T, false) := (round_rl ho T).fl h
  have h1 : (seededT p p.sd.length (T, false)).2 = false := by
    have := (roundE_rl ho (seededT p p.sd.length (T, false)) (Nat.le_refl _)).fl h
    unfold roundT at h
    rw [this] at h
    exact h
  have e1 : seededT p p.sd.length (T, false) = (T, false) := (seeded_rl ho _ (Nat.le_refl _)).fl h1
  have h2 : (roundE p p.es.length (T, false)).2 = false := by
    unfold roundT at h
    rw [e1] at h
    exact h
  have hE : ∀ k, k < p.es.length → edgeT p k (T, false) = (T, false) := up_fix _ (fun k hk s => edge_rl ho s hk) h2
  have rng : ∀ n a d, T n a d = true → a < p.F.toNat ∧ d < p.F.toNat := fun n a d hh => by
    have := (hs n a d hh).rng ho
    omega
  refine ⟨hm, fun x hx ht => ?_, fun k hk hk2 q hq a ht => ?_, fun k hk hk2 q hq a ht => ?_, ?_⟩
  · obtain ⟨i, hi, rfl⟩ := mem_gd hx
    have := up_fix _ (fun i hi s => Rl.ite fun _ => Rl.put (sd_rng ho hi).1 (f_pos ho) (sd_rng ho hi).2) h1 i hi
    rw [if_pos ht] at this
    exact put_fix rfl this
  · obtain ⟨i, hi, rfl⟩ := mem_gp hq
    have h3 := hE k hk
    unfold edgeT at h3
    rw [if_pos hk2] at h3
    have h4 := up_fix _ (fun i hi s => passedR_rl ho s hk hi (Nat.le_refl _)) (show (passedT p k p.F.toNat (T, false)).2 = false by rw [h3]) a (rng _ _ _ ht).1
    have h5 := up_fix _ (fun i hi s => Rl.ite fun _ => Rl.put (ed_rng ho hk).2 (rng _ _ _ ht).1 (pr_rng ho hk hi).2) (show (passedR p k a (gf p.fl k).length (T, false)).2 = false by rw [h4]) i hi
    rw [if_pos ht] at h5
    exact put_fix rfl h5
  · obtain ⟨i, hi, rfl⟩ := mem_gp hq
    have h3 := hE k hk
    unfold edgeT at h3
    rw [if_neg (by omega), if_pos hk2] at h3
    have h4 := up_fix _ (fun i hi s => enteredR_rl ho s hk (Nat.le_refl _)) (show (enteredT p k p.F.toNat (T, false)).2 = false by rw [h3]) a (rng _ _ _ ht).1
    have h5 := up_fix _ (fun i hi s => Rl.ite fun _ => Rl.put (ed_rng ho hk).2 (pr_rng ho hk hi).2 (pr_rng ho hk hi).2) (show (enteredR p k a (gf p.fl k).length (T, false)).2 = false by rw [h4]) i hi
    rw [if_pos ht] at h5
    exact put_fix rfl h5
  · intro c hc hc2 q hq r hr hr2 t ht' e1 e2 a ht hd
    obtain ⟨j, hj, rfl⟩ := mem_gp hq
    obtain ⟨m, hm', rfl⟩ := mem_gp ht'
    have h3 := hE r hr
    unfold edgeT at h3
    rw [if_neg (by omega), if_neg (by omega)] at h3
    have h4 := up_fix _ (fun i hi s => Rl.ite fun _ => retJ_rl ho s hr) (show (returnedT p r p.es.length (T, false)).2 = false by rw [h3]) c hc
    have hcc : retC p r c := ⟨hc2, e1, e2⟩
    rw [if_pos hcc] at h4
    have h5 := up_fix _ (fun i hi s => retM_rl ho s hr (Nat.le_refl _)) (show (retJ p r c (gf p.fl c).length (T, false)).2 = false by rw [h4]) j hj
    have h6 := up_fix _ (fun i hi s => Rl.ite fun _ => through_rl s (ed_rng ho hr).2 (pr_rng ho hr hi).2 (Nat.le_refl _)) (show (retM p r c j (gf p.fl r).length (T, false)).2 = false by rw [h5]) m hm'
    rw [if_pos hd] at h6
    have h7 := up_fix _ (fun i hi s => Rl.ite fun _ => Rl.put (ed_rng ho hr).2 hi (pr_rng ho hr hm').2) (show (throughT (ge p.es c).a.toNat (ge p.es r).b.toNat (gp (gf p.fl c) j).i.toNat (gp (gf p.fl r) m).o.toNat p.F.toNat (T, false)).2 = false by rw [h6]) a (rng _ _ _ ht).1
    rw [if_pos ht] at h7
    exact put_fix rfl h7
def unhT (p : Pb) (T : Nat → Nat → Nat → Bool) : Nat := (trip p.ns.length p.F.toNat).countP fun x => !T x.1 x.2.1 x.2.2
theorem round_unh {p : Pb} (ho : Ok p) {T : Nat → Nat → Nat → Bool} (h : (roundT p T).2 = true) : unhT p (roundT p T).1 < unhT p T := by
  have hr := round_rl ho T
  rcases hr.tr h with h1 | ⟨n, a, d, h1, h2, h3, h4, h5⟩
  · cases h1
  · refine countP_lt (y := (n, a, d)) (fun x hx => ?_) (by simpa using h4) (by simpa using h5) _ (mem_trip.2 ⟨h1, h2, h3⟩)
    simp at hx ⊢
    cases hh : T x.1 x.2.1 x.2.2 with
    | false => rfl
    | true => rw [hr.le _ _ _ hh] at hx; cases hx
end If
end Go.Df
/- The closed example of the laws about IFDS problems: its path edges and its solution. No program in sight. -/
namespace Go.Df
open Go.RowKit
namespace If
open Sp
/-- The example's problem. -/
def p1 : Pb := ⟨[⟨0, 1, -1⟩, ⟨0, 2, 0⟩, ⟨0, 3, -1⟩, ⟨0, 4, -1⟩], [⟨0, 1, 1, -1⟩, ⟨1, 2, 1, -1⟩], 0, 2, [[⟨0, 0⟩, ⟨0, 1⟩], [⟨0, 0⟩, ⟨1, 1⟩]], []⟩
theorem p1_pe {a n d : Nat} (h : PE p1 a n d) : a = 0 ∧ n ≤ 2 ∧ (d = 0 ∨ (d = 1 ∧ 1 ≤ n)) := by
  have hk2 : ∀ k, k < p1.es.length → k = 0 ∨ k = 1 := fun k hk => by
    have : p1.es.length = 2 := rfl
    omega
  induction h with
  | main => exact ⟨rfl, Nat.zero_le _, .inl rfl⟩
  | seed _ hs _ => cases hs
  | @flow a k q hk _ hq _ ih =>
    rcases hk2 _ hk with rfl | rfl
    · have hq' : q = (⟨0, 0⟩ : Pr) ∨ q = (⟨0, 1⟩ : Pr) := by simpa [p1, gf] using hq
      rcases hq' with rfl | rfl
      · exact ⟨ih.1, by decide, .inl rfl⟩
      · exact ⟨ih.1, by decide, .inr ⟨rfl, by decide⟩⟩
    · have hq' : q = (⟨0, 0⟩ : Pr) ∨ q = (⟨1, 1⟩ : Pr) := by simpa [p1, gf] using hq
      rcases hq' with rfl | rfl
      · exact ⟨ih.1, by decide, .inl rfl⟩
      · exact ⟨ih.1, by decide, .inr ⟨rfl, by decide⟩⟩
  | call hk h2 _ _ _ =>
    rcases hk2 _ hk with rfl | rfl
    · exact absurd h2 (by decide)
    · exact absurd h2 (by decide)
  | ret hc h2 _ _ _ _ _ _ _ _ _ _ =>
    rcases hk2 _ hc with rfl | rfl
    · exact absurd h2 (by decide)
    · exact absurd h2 (by decide)
theorem p1_00 : PE p1 0 0 0 := .main
theorem p1_10 : PE p1 0 1 0 := .flow (k := 0) (q := ⟨0, 0⟩) (by decide) (.inl rfl) (by decide) p1_00
theorem p1_11 : PE p1 0 1 1 := .flow (k := 0) (q := ⟨0, 1⟩) (by decide) (.inl rfl) (by decide) p1_00
theorem p1_20 : PE p1 0 2 0 := .flow (k := 1) (q := ⟨0, 0⟩) (by decide) (.inl rfl) (by decide) p1_10
theorem p1_21 : PE p1 0 2 1 := .flow (k := 1) (q := ⟨1, 1⟩) (by decide) (.inl rfl) (by decide) p1_11
theorem p1_err : pbErr p1 = 0 := by decide
end If
end Go.Df
/- A solution only grows with its flow functions; ascending lists of pairs with one more pair. No program in sight. -/
namespace Go.Df
open Go.RowKit
namespace If
open Sp
theorem PE.grow {p q : Pb} (h1 : q.ns = p.ns) (h2 : q.es = p.es) (h3 : q.mn = p.mn) (h4 : q.sd = p.sd) (h5 : ∀ k x, k < p.es.length → x ∈ gf p.fl k → x ∈ gf q.fl k) {a n d : Nat} (h : PE p a n d) : PE q a n d := by
  induction h with
  | main => rw [← h3]; exact .main
  | seed _ hs ih => exact .seed ih (by rw [h4]; exact hs)
  | flow hk h6 hq _ ih => rw [← h2] at *; exact .flow hk h6 (h5 _ _ (by rw [← h2]; exact hk) hq) ih
  | call hk h6 hq _ ih => rw [← h2] at *; exact .call hk h6 (h5 _ _ (by rw [← h2]; exact hk) hq) ih
  | ret hc h6 hq hr h7 hs h8 h9 _ _ ih1 ih2 =>
    rw [← h2, ← h1] at *
    exact .ret hc h6 (h5 _ _ (by rw [← h2]; exact hc) hq) hr h7 (h5 _ _ (by rw [← h2]; exact hr) hs) h8 h9 ih1 ih2
/-- The state of With behind some elements: the list so far, and whether the new one is put. -/
def wst (x : Pr) (s : List Pr × Bool) (y : Pr) : List Pr × Bool := if s.2 = false ∧ lessR x y = true then (s.1 ++ [x] ++ [y], true) else (s.1 ++ [y], s.2)
def wsl (x : Pr) (l : List Pr) : List Pr × Bool := l.foldl (wst x) ([], false)
def withR (l : List Pr) (x : Pr) : List Pr := if x ∈ l then l else if (wsl x l).2 = true then (wsl x l).1 else (wsl x l).1 ++ [x]
theorem wsl_mem (x y : Pr) (l : List Pr) : ∀ s : List Pr × Bool, y ∈ (l.foldl (wst x) s).1 ↔ y ∈ s.1 ∨ y ∈ l ∨ (y = x ∧ s.2 = false ∧ (l.foldl (wst x) s).2 = true) := by
  induction l with
  | nil => intro s; cases hh : s.2 <;> simp [hh]
  | cons z l ih =>
    intro s
    rw [List.foldl_cons, ih]
    unfold wst
    split
    · rename_i h
      have hT : (l.foldl (wst x) (s.1 ++ [x] ++ [z], true)).2 = true := by
        clear ih
        generalize s.1 ++ [x] ++ [z] = u
        induction l generalizing u with
        | nil => rfl
        | cons v l ih => rw [List.foldl_cons]; unfold wst; rw [if_neg (by simp)]; exact ih _
      rw [show (List.foldl (fun s y => if s.2 = false ∧ lessR x y = true then (s.1 ++ [x] ++ [y], true) else (s.1 ++ [y], s.2)) (s.1 ++ [x] ++ [z], true) l).2 = true from hT]
      simp [h.1]
      grind
    · simp
      grind
theorem withR_mem (l : List Pr) (x y : Pr) : y ∈ withR l x ↔ y ∈ l ∨ y = x := by
  unfold withR
  split
  · rename_i h; grind
  · have h1 := wsl_mem x y l ([], false)
    split
    · rename_i h2
      unfold wsl at h2 ⊢
      rw [h1]
      simp [h2]
    · rename_i h2
      unfold wsl at h2 ⊢
      rw [List.mem_append, h1]
      simp [h2]
def unionR (f g : List Pr) : List Pr := g.foldl withR (f.foldl withR [])
theorem foldW_mem (y : Pr) : ∀ (l s : List Pr), y ∈ l.foldl withR s ↔ y ∈ s ∨ y ∈ l
  | [], s => by simp
  | x :: l, s => by rw [List.foldl_cons, foldW_mem y l, withR_mem]; simp; grind
theorem unionR_mem (f g : List Pr) (y : Pr) : y ∈ unionR f g ↔ y ∈ f ∨ y ∈ g := by
  unfold unionR
  rw [foldW_mem, foldW_mem]
  simp
end If
end Go.Df
