/- Texts: Ib Ic Jdz Ko Ea Ec. -/
import Derived.Test.YtincpmdldpakkaaDoorCf05
import Derived.Test.YtincpmdldpakkaaDoorCf04
import Derived.Test.YtincpmdldpakkaaDoorCf03
namespace Go.Df
open Go.RowKit
namespace If
open Sp
def stOf (ns : List Nd) : Nat → Nat
  | 0 => 0
  | i + 1 => if (gn ns (i + 1)).k = 1 then i + 1 else stOf ns i
theorem stOf_le (ns : List Nd) : ∀ i, stOf ns i ≤ i
  | 0 => Nat.le_refl _
  | i + 1 => by
    rw [stOf]
    split
    · exact Nat.le_refl _
    · exact Nat.le_succ_of_le (stOf_le ns i)
theorem stOf_hit {ns : List Nd} {j : Nat} : ∀ {i : Nat}, j ≤ i → (gn ns j).k = 1 → j ≤ stOf ns i ∧ (gn ns (stOf ns i)).k = 1
  | 0, h, hk => by obtain rfl : j = 0 := by omega
                   exact ⟨Nat.zero_le _, hk⟩
  | i + 1, h, hk => by
    rw [stOf]
    split
    · rename_i h1; exact ⟨h, h1⟩
    · rename_i h1
      by_cases e : j = i + 1
      · subst e; exact absurd hk h1
      · exact stOf_hit (by omega) hk
structure NdOk (ns : List Nd) : Prop where
  err : ∀ x, x < ns.length → nodeErr ns x = 0
  st : ∀ x, x < ns.length → ∃ j, j < ns.length ∧ (gn ns j).f = (gn ns x).f ∧ (gn ns j).k = 1
theorem ndOk_of {ns : List Nd} {m : Int} (h : nodesErr ns m = 0) : NdOk ns := by
  unfold nodesErr at h
  split at h
  · rename_i h0; exact absurd h h0
  · rename_i h0
    split at h
    · rename_i h1; exact absurd h h1
    · rename_i h1
      refine ⟨fun x hx => fe_zero _ _ (Decidable.byContradiction h0) x (Nat.zero_le _) (by omega), fun x hx => ?_⟩
      have h2 := fe_zero _ _ (Decidable.byContradiction h1) x (Nat.zero_le _) (by omega)
      unfold wholeErr at h2
      split at h2
      · cases h2
      · rename_i h3
        refine Classical.byContradiction fun h4 => h3 (.inl (kind_neg.2 fun j hj hh => h4 ⟨j, hj, hh.1, hh.2⟩))
theorem NdOk.kind {ns : List Nd} (h : NdOk ns) {x : Nat} (hx : x < ns.length) : 1 ≤ (gn ns x).k ∧ (gn ns x).k ≤ 4 := by
  have := h.err x hx
  unfold nodeErr at this
  split at this
  · cases this
  · omega
theorem NdOk.le {ns : List Nd} (h : NdOk ns) {i j : Nat} (hij : i ≤ j) (hj : j < ns.length) : (gn ns i).f ≤ (gn ns j).f := by
  by_cases e : i = j
  · rw [e]; exact Int.le_refl _
  · have := node_asc h.err j i (by omega) hj
    unfold lessN at this
    split at this
    · have := of_decide_eq_true this; omega
    · omega
theorem NdOk.ahead {ns : List Nd} (h : NdOk ns) {j x : Nat} (hj : j < ns.length) (hx : x < ns.length) (hf : (gn ns j).f = (gn ns x).f) (hk : (gn ns j).k = 1) : j ≤ x := by
  rcases Nat.lt_or_ge x j with h1 | h1
  · have h2 := node_asc h.err j x h1 hj
    have h3 := h.kind hx
    unfold lessN at h2
    rw [if_neg (by rw [hf]; simp)] at h2
    split at h2
    · have := of_decide_eq_true h2; omega
    · rename_i h4
      have h5 : (gn ns x).k = 1 := by rw [← hk]; exact Decidable.byContradiction h4
      have := of_decide_eq_true h2
      rw [node_i (h.err x hx) (by omega), node_i (h.err j hj) (by omega)] at this
      omega
  · exact h1
theorem NdOk.start {ns : List Nd} (h : NdOk ns) {x : Nat} (hx : x < ns.length) : (gn ns (stOf ns x)).f = (gn ns x).f ∧ (gn ns (stOf ns x)).k = 1 := by
  obtain ⟨j, hj, hf, hk⟩ := h.st x hx
  have h1 := h.ahead hj hx hf hk
  obtain ⟨h2, h3⟩ := stOf_hit h1 hk
  have h4 := stOf_le ns x
  have h5 := h.le h2 (by omega)
  have h6 := h.le h4 hx
  exact ⟨by omega, h3⟩
theorem NdOk.start_iff {ns : List Nd} (h : NdOk ns) {x s : Nat} (hx : x < ns.length) (hs : s < ns.length) (hk : (gn ns s).k = 1) : stOf ns x = s ↔ (gn ns s).f = (gn ns x).f := by
  have h1 := h.start hx
  constructor
  · rintro rfl; exact h1.1
  · intro hf
    have hl : stOf ns x < ns.length := by have := stOf_le ns x; omega
    have h2 := h.ahead hs hl (by rw [hf, h1.1]) hk
    have h3 := h.ahead hl hs (by rw [hf, h1.1]) h1.2
    omega
theorem Ok.nd {p : Pb} (h : Ok p) : NdOk p.ns := ndOk_of (sup_parts h.sup).2.2.1
theorem Ok.edge {p : Pb} (h : Ok p) {k : Nat} (hk : k < p.es.length) :
    0 ≤ (ge p.es k).a ∧ (ge p.es k).a < p.ns.length ∧ 0 ≤ (ge p.es k).b ∧ (ge p.es k).b < p.ns.length ∧ 1 ≤ (ge p.es k).k ∧ (ge p.es k).k ≤ 5 ∧ ((ge p.es k).k ≠ 1 → (ge p.es k).k ≠ 5 → 0 ≤ (ge p.es k).c ∧ (ge p.es k).c < p.ns.length) ∧ fitsB p.ns p.es (ge p.es k) = true := sup_edge h.sup hk
theorem Ok.call {p : Pb} (h : Ok p) {k : Nat} (hk : k < p.es.length) (h2 : (ge p.es k).k = 2) : (gn p.ns (ge p.es k).b.toNat).k = 1 ∧ (gn p.ns (ge p.es k).a.toNat).k = 2 ∧ (ge p.es k).c = (ge p.es k).a := by
  have h1 := (h.edge hk).2.2.2.2.2.2.2
  unfold fitsB fitsN at h1
  rw [if_neg (by omega), if_pos h2] at h1
  simp at h1
  exact ⟨h1.2, h1.1.1, h1.1.2⟩
theorem Ok.ret {p : Pb} (h : Ok p) {k : Nat} (hk : k < p.es.length) (h2 : (ge p.es k).k = 3 ∨ (ge p.es k).k = 4) : (gn p.ns (ge p.es k).a.toNat).k = 3 ∨ (gn p.ns (ge p.es k).a.toNat).k = 4 := by
  have h1 := (h.edge hk).2.2.2.2.2.2.2
  unfold fitsB fitsN at h1
  rw [if_neg (by omega), if_neg (by omega)] at h1
  split at h1
  · cases h1
  · omega
structure Clo (p : Pb) (T : Nat → Nat → Nat → Prop) : Prop where
  main : T 0 p.mn.toNat 0
  seed : ∀ s ∈ p.sd, T 0 s.n.toNat 0 → T 0 s.n.toNat s.f.toNat
  flow : ∀ k, k < p.es.length → ((ge p.es k).k = 1 ∨ (ge p.es k).k = 5) → ∀ q ∈ gf p.fl k, ∀ a, T a (ge p.es k).a.toNat q.i.toNat → T a (ge p.es k).b.toNat q.o.toNat
  call : ∀ k, k < p.es.length → (ge p.es k).k = 2 → ∀ q ∈ gf p.fl k, ∀ a, T a (ge p.es k).a.toNat q.i.toNat → T q.o.toNat (ge p.es k).b.toNat q.o.toNat
  ret : ∀ c, c < p.es.length → (ge p.es c).k = 2 → ∀ q ∈ gf p.fl c, ∀ r, r < p.es.length → ((ge p.es r).k = 3 ∨ (ge p.es r).k = 4) → ∀ s ∈ gf p.fl r, (ge p.es c).a = (ge p.es r).c → (gn p.ns (ge p.es c).b.toNat).f = (gn p.ns (ge p.es r).a.toNat).f →
    ∀ a, T a (ge p.es c).a.toNat q.i.toNat → T q.o.toNat (ge p.es r).a.toNat s.i.toNat → T a (ge p.es r).b.toNat s.o.toNat
theorem Clo.all {p : Pb} {T : Nat → Nat → Nat → Prop} (h : Clo p T) {a n d : Nat} (hp : PE p a n d) : T a n d := by
  induction hp with
  | main => exact h.main
  | seed _ hs ih => exact h.seed _ hs ih
  | flow hk hk2 hq _ ih => exact h.flow _ hk hk2 _ hq _ ih
  | call hk hk2 hq _ ih => exact h.call _ hk hk2 _ hq _ ih
  | ret hc hc2 hq hr hr2 hs e1 e2 _ _ ih1 ih2 => exact h.ret _ hc hc2 _ hq _ hr hr2 _ hs e1 e2 _ ih1 ih2
end If
end Go.Df
namespace Go.Df
open Go.RowKit
namespace If
open Sp
structure St where
  h : Nat → Nat → Nat → Bool
  e : Nat → Nat → Nat → Bool
  pd : Nat → List (Nat × Nat)
  q : List Nat
def St.add (s : St) (n a d : Nat) : St :=
  if s.h n a d = true then s else
    ⟨fun n' a' d' => s.h n' a' d' || (n' == n && (a' == a && d' == d)), s.e, fun n' => if n' = n then s.pd n ++ [(a, d)] else s.pd n', if s.pd n = [] then s.q ++ [n] else s.q⟩
def St.ent (s : St) (k b a : Nat) : St := ⟨s.h, fun k' b' a' => s.e k' b' a' || (k' == k && (b' == b && a' == a)), s.pd, s.q⟩
def froms (l : List Pr) (d : Nat) : List Pr := l.filter fun q => q.i == (d : Int)
def elems (F : Nat) (f : Nat → Bool) : List Nat := (List.range F).filter f
def outL (p : Pb) (n : Nat) : List Nat := (List.range p.es.length).filter fun k => (ge p.es k).a == (n : Int)
def callL (p : Pb) (n : Nat) : List Nat := (List.range p.es.length).filter fun k => (ge p.es k).k == 2 && (ge p.es k).b == (n : Int)
def retL (p : Pb) (n : Nat) : List Nat := (List.range p.es.length).filter fun k => ((ge p.es k).k == 3 || (ge p.es k).k == 4) && (ge p.es k).c == (n : Int)
def seedL (p : Pb) (n : Nat) : List Sd := p.sd.filter fun s => s.n == (n : Int)
def spread (p : Pb) (k a d : Nat) (s : St) : St := (froms (gf p.fl k) d).foldl (fun s q => s.add (ge p.es k).b.toNat a q.o.toNat) s
def enterR (p : Pb) (k a b : Nat) (s : St) (r : Nat) : St :=
  if stOf p.ns (ge p.es r).a.toNat = (ge p.es k).b.toNat then (elems p.F.toNat (s.h (ge p.es r).a.toNat b)).foldl (fun s f => spread p r a f s) s else s
def enter1 (p : Pb) (k a b : Nat) (s : St) : St :=
  if (s.add (ge p.es k).b.toNat b b).e k b a = true then s.add (ge p.es k).b.toNat b b else (retL p (ge p.es k).a.toNat).foldl (enterR p k a b) ((s.add (ge p.es k).b.toNat b b).ent k b a)
def enter (p : Pb) (k a d : Nat) (s : St) : St := (froms (gf p.fl k) d).foldl (fun s q => enter1 p k a q.o.toNat s) s
def leaveR (p : Pb) (n d : Nat) (cs : List Nat) (s : St) (r : Nat) : St := if (ge p.es r).a.toNat = n then cs.foldl (fun s a => spread p r a d s) s else s
def leave1 (p : Pb) (n b d : Nat) (s : St) (k : Nat) : St := (retL p (ge p.es k).a.toNat).foldl (leaveR p n d (elems p.F.toNat (s.e k b))) s
def leave (p : Pb) (n b d : Nat) (s : St) : St := (callL p (stOf p.ns n)).foldl (leave1 p n b d) s
def stepE (p : Pb) (a d : Nat) (s : St) (k : Nat) : St := if (ge p.es k).k = 1 ∨ (ge p.es k).k = 5 then spread p k a d s else if (ge p.es k).k = 2 then enter p k a d s else s
def stepA (p : Pb) (n a d : Nat) (s : St) : St := if a = 0 ∧ d = 0 then (seedL p n).foldl (fun s x => s.add n 0 x.f.toNat) s else s
def step (p : Pb) (n a d : Nat) (s : St) : St :=
  if (gn p.ns n).k = 3 ∨ (gn p.ns n).k = 4 then leave p n a d ((outL p n).foldl (stepE p a d) (stepA p n a d s)) else (outL p n).foldl (stepE p a d) (stepA p n a d s)
structure Le (s t : St) : Prop where
  h : ∀ n a d, s.h n a d = true → t.h n a d = true
  e : ∀ k b a, s.e k b a = true → t.e k b a = true
  pd : ∀ n x, x ∈ s.pd n → x ∈ t.pd n
  new : ∀ n a d, t.h n a d = true → s.h n a d = true ∨ (a, d) ∈ t.pd n
  old : ∀ n x, x ∈ t.pd n → x ∈ s.pd n ∨ s.h n x.1 x.2 = false
theorem Le.refl (s : St) : Le s s := ⟨fun _ _ _ h => h, fun _ _ _ h => h, fun _ _ h => h, fun _ _ _ h => .inl h, fun _ _ h => .inl h⟩
theorem Le.trans {s t u : St} (h : Le s t) (g : Le t u) : Le s u := by
  refine ⟨fun n a d x => g.h _ _ _ (h.h _ _ _ x), fun n a d x => g.e _ _ _ (h.e _ _ _ x), fun n x y => g.pd _ _ (h.pd _ _ y), fun n a d x => ?_, fun n x y => ?_⟩
  · rcases g.new _ _ _ x with y | y
    · rcases h.new _ _ _ y with z | z
      · exact .inl z
      · exact .inr (g.pd _ _ z)
    · exact .inr y
  · rcases g.old _ _ y with z | z
    · exact h.old _ _ z
    · refine .inr ?_
      cases hh : s.h n x.1 x.2 with
      | false => rfl
      | true => rw [h.h _ _ _ hh] at z; cases z
theorem mem_froms {l : List Pr} {d : Nat} {q : Pr} : q ∈ froms l d ↔ q ∈ l ∧ q.i = d := by simp [froms]
structure Snd (p : Pb) (s : St) : Prop where
  h : ∀ n a d, s.h n a d = true → PE p a n d
  e : ∀ k b a, s.e k b a = true → k < p.es.length ∧ (ge p.es k).k = 2 ∧ ∃ q ∈ gf p.fl k, q.o.toNat = b ∧ PE p a (ge p.es k).a.toNat q.i.toNat
theorem Snd.add {p : Pb} {s : St} (h : Snd p s) {n a d : Nat} (hp : PE p a n d) : Snd p (s.add n a d) := by
  unfold St.add
  split
  · exact h
  · refine ⟨fun n' a' d' h' => ?_, h.e⟩
    simp at h'
    rcases h' with h' | ⟨rfl, rfl, rfl⟩
    · exact h.h _ _ _ h'
    · exact hp
theorem fold_snd {p : Pb} {α : Type} {f : St → α → St} : ∀ (l : List α) (s : St), (∀ x ∈ l, ∀ t, Snd p t → Snd p (f t x)) → Snd p s → Snd p (l.foldl f s)
  | [], _, _, h => h
  | x :: l, s, hf, h => fold_snd l _ (fun y hy => hf y (by simp [hy])) (hf x (by simp) s h)
theorem outL_mem {p : Pb} {n k : Nat} : k ∈ outL p n ↔ k < p.es.length ∧ (ge p.es k).a = n := by simp [outL]
theorem callL_mem {p : Pb} {n k : Nat} : k ∈ callL p n ↔ k < p.es.length ∧ (ge p.es k).k = 2 ∧ (ge p.es k).b = n := by simp [callL]
theorem retL_mem {p : Pb} {n k : Nat} : k ∈ retL p n ↔ k < p.es.length ∧ ((ge p.es k).k = 3 ∨ (ge p.es k).k = 4) ∧ (ge p.es k).c = n := by simp [retL]
theorem elems_mem {F : Nat} {f : Nat → Bool} {x : Nat} : x ∈ elems F f ↔ x < F ∧ f x = true := by simp [elems]
theorem spread_ret {p : Pb} (ho : Ok p) {k r a b d : Nat} (hr : r < p.es.length) (hr2 : (ge p.es r).k = 3 ∨ (ge p.es r).k = 4) (he : k < p.es.length ∧ (ge p.es k).k = 2 ∧ ∃ q ∈ gf p.fl k, q.o.toNat = b ∧ PE p a (ge p.es k).a.toNat q.i.toNat)
    (hc : (ge p.es r).c = (ge p.es k).a) (hf : stOf p.ns (ge p.es r).a.toNat = (ge p.es k).b.toNat) (hp : PE p b (ge p.es r).a.toNat d) {s : St} (h : Snd p s) : Snd p (spread p r a d s) := by
  obtain ⟨hk, hk2, q0, hq0, hb, hp0⟩ := he
  have h1 := ho.edge hr
  have h2 := ho.edge hk
  have h3 := (ho.nd.start_iff (x := (ge p.es r).a.toNat) (s := (ge p.es k).b.toNat) (by omega) (by omega) (ho.call hk hk2).1).1 hf
  refine fold_snd _ s (fun q hq t ht => ht.add ?_) h
  obtain ⟨h4, h5⟩ := mem_froms.1 hq
  exact .ret hk hk2 hq0 hr hr2 h4 hc.symm h3 hp0 (by rw [h5, Int.toNat_natCast, hb]; exact hp)
theorem enter_snd {p : Pb} (ho : Ok p) {k a d : Nat} (hk : k < p.es.length) (hk2 : (ge p.es k).k = 2) (hp : PE p a (ge p.es k).a.toNat d) {s : St} (h : Snd p s) : Snd p (enter p k a d s) := by
  refine fold_snd _ s (fun q hq t ht => ?_) h
  obtain ⟨h2, h3⟩ := mem_froms.1 hq
  have hp' : PE p a (ge p.es k).a.toNat q.i.toNat := by rw [h3, Int.toNat_natCast]; exact hp
  have h4 := ht.add (PE.call hk hk2 h2 hp')
  unfold enter1
  split
  · exact h4
  · have he : k < p.es.length ∧ (ge p.es k).k = 2 ∧ ∃ q' ∈ gf p.fl k, q'.o.toNat = q.o.toNat ∧ PE p a (ge p.es k).a.toNat q'.i.toNat := ⟨hk, hk2, q, h2, rfl, hp'⟩
    refine fold_snd _ _ (fun r hr t ht => ?_) ⟨h4.h, fun k' b' a' h' => ?_⟩
    · obtain ⟨r1, r2, r3⟩ := retL_mem.1 hr
      unfold enterR
      split
      · rename_i hst
        refine fold_snd _ _ (fun f hf u hu => ?_) ht
        refine spread_ret ho r1 r2 he ?_ hst (ht.h _ _ _ (elems_mem.1 hf).2) hu
        have := ho.edge hk
        omega
      · exact ht
    · simp [St.ent] at h'
      rcases h' with h' | ⟨rfl, rfl, rfl⟩
      · exact h4.e _ _ _ h'
      · exact he
theorem leave_snd {p : Pb} (ho : Ok p) {n b d : Nat} (_hn : n < p.ns.length) (hp : PE p b n d) {s : St} (h : Snd p s) : Snd p (leave p n b d s) := by
  refine fold_snd _ s (fun k hk t ht => ?_) h
  obtain ⟨k1, k2, k3⟩ := callL_mem.1 hk
  refine fold_snd _ t (fun r hr u hu => ?_) ht
  obtain ⟨r1, r2, r3⟩ := retL_mem.1 hr
  unfold leaveR
  split
  · rename_i hrn
    refine fold_snd _ u (fun a ha v hv => ?_) hu
    have := ho.edge k1
    refine spread_ret ho r1 r2 (ht.e _ _ _ (elems_mem.1 ha).2) (by omega) (by rw [hrn]; omega) (by rw [hrn]; exact hp) hv
  · exact hu
structure Cp (p : Pb) (s : St) (D : Nat → Nat → Nat → Prop) : Prop where
  seed : ∀ n, D n 0 0 → ∀ x ∈ p.sd, x.n = n → s.h n 0 x.f.toNat = true
  flow : ∀ n a d, D n a d → ∀ k, k < p.es.length → ((ge p.es k).k = 1 ∨ (ge p.es k).k = 5) → (ge p.es k).a = n → ∀ q ∈ gf p.fl k, q.i = d → s.h (ge p.es k).b.toNat a q.o.toNat = true
  call : ∀ n a d, D n a d → ∀ k, k < p.es.length → (ge p.es k).k = 2 → (ge p.es k).a = n → ∀ q ∈ gf p.fl k, q.i = d → s.h (ge p.es k).b.toNat q.o.toNat q.o.toNat = true ∧ s.e k q.o.toNat a = true
  ret : ∀ k b a, s.e k b a = true → ∀ r, r < p.es.length → ((ge p.es r).k = 3 ∨ (ge p.es r).k = 4) → (ge p.es r).c = (ge p.es k).a → stOf p.ns (ge p.es r).a.toNat = (ge p.es k).b.toNat → ∀ d, D (ge p.es r).a.toNat b d → ∀ q ∈ gf p.fl r, q.i = d → s.h (ge p.es r).b.toNat a q.o.toNat = true
def Dn (s : St) (n : Nat) (rest : List (Nat × Nat)) (n' a d : Nat) : Prop := s.h n' a d = true ∧ (a, d) ∉ s.pd n' ∧ ¬ (n' = n ∧ (a, d) ∈ rest)
def CpR (p : Pb) (s : St) (D : Nat → Nat → Nat → Prop) : Prop := ∀ k b a, s.e k b a = true → ∀ r, r < p.es.length → ((ge p.es r).k = 3 ∨ (ge p.es r).k = 4) → (ge p.es r).c = (ge p.es k).a → stOf p.ns (ge p.es r).a.toNat = (ge p.es k).b.toNat → ∀ d, D (ge p.es r).a.toNat b d → ∀ q ∈ gf p.fl r, q.i = d → s.h (ge p.es r).b.toNat a q.o.toNat = true
theorem CpR.mono {p : Pb} {s t : St} {D : Nat → Nat → Nat → Prop} (h : CpR p s D) (hl : Le s t) (he : t.e = s.e) : CpR p t D := fun k b a hk r r1 r2 r3 r4 d hd q hq hi => hl.h _ _ _ (h k b a (by rw [← he]; exact hk) r r1 r2 r3 r4 d hd q hq hi)
end If
end Go.Df
namespace Go.Df
open Go.RowKit
namespace If
def Prs (w : World) (A : Option Addr) (n : Nat) (l : List Pr) : Prop :=
  l.length = n ∧ (0 < n → ∃ b o, A = some ⟨b, o, none⟩ ∧ b < w.heap.size ∧ ∀ i, i < n → w.cell? ⟨b, o + i * 2, none⟩ = some (.int .i64 (gp l i).i) ∧ w.cell? ⟨b, o + i * 2 + 1, none⟩ = some (.int .i64 (gp l i).o))
theorem Prs.later {w w' : World} {A : Option Addr} {n : Nat} {l : List Pr} (h : Prs w A n l) (hb : Below w.heap.size w w') : Prs w' A n l :=
  ⟨h.1, fun hn => by
    obtain ⟨b, o, e, hl, hc⟩ := h.2 hn
    exact ⟨b, o, e, Nat.lt_of_lt_of_le hl hb.size, fun i hi => ⟨(hb.cell (p := ⟨b, _, none⟩) hl).trans (hc i hi).1, (hb.cell (p := ⟨b, _, none⟩) hl).trans (hc i hi).2⟩⟩⟩
def Sds (w : World) (A : Option Addr) (n : Nat) (l : List Sd) : Prop :=
  l.length = n ∧ (0 < n → ∃ b o, A = some ⟨b, o, none⟩ ∧ b < w.heap.size ∧ ∀ i, i < n → w.cell? ⟨b, o + i * 2, none⟩ = some (.int .i64 (gd l i).n) ∧ w.cell? ⟨b, o + i * 2 + 1, none⟩ = some (.int .i64 (gd l i).f))
theorem Sds.later {w w' : World} {A : Option Addr} {n : Nat} {l : List Sd} (h : Sds w A n l) (hb : Below w.heap.size w w') : Sds w' A n l :=
  ⟨h.1, fun hn => by
    obtain ⟨b, o, e, hl, hc⟩ := h.2 hn
    exact ⟨b, o, e, Nat.lt_of_lt_of_le hl hb.size, fun i hi => ⟨(hb.cell (p := ⟨b, _, none⟩) hl).trans (hc i hi).1, (hb.cell (p := ⟨b, _, none⟩) hl).trans (hc i hi).2⟩⟩⟩
def Flw (w : World) (A : Option Addr) (n : Nat) (ls : List (List Pr)) : Prop :=
  ls.length = n ∧ (0 < n → ∃ b o, A = some ⟨b, o, none⟩ ∧ b < w.heap.size ∧ ∀ i, i < n → ∃ Ai ni ci, w.cell? ⟨b, o + i, none⟩ = some (.slice Ai ni ci) ∧ ni ≤ ci ∧ Prs w Ai ni (gf ls i))
theorem Flw.later {w w' : World} {A : Option Addr} {n : Nat} {ls : List (List Pr)} (h : Flw w A n ls) (hb : Below w.heap.size w w') : Flw w' A n ls :=
  ⟨h.1, fun hn => by
    obtain ⟨b, o, e, hl, hc⟩ := h.2 hn
    refine ⟨b, o, e, Nat.lt_of_lt_of_le hl hb.size, fun i hi => ?_⟩
    obtain ⟨Ai, ni, ci, h1, h2, h3⟩ := hc i hi
    exact ⟨Ai, ni, ci, (hb.cell (p := ⟨b, _, none⟩) hl).trans h1, h2, h3.later hb⟩⟩
theorem filter_all {l : List Pr} {d : Int} (h : ∀ q ∈ l, q.i = d) : l.filter (fun q => q.i == d) = l := List.filter_eq_self.2 fun q hq => by simpa using h q hq
theorem filter_no {l : List Pr} {d : Int} (h : ∀ q ∈ l, q.i ≠ d) : l.filter (fun q => q.i == d) = [] := List.filter_eq_nil_iff.2 fun q hq => by simpa using h q hq
theorem Prs.mid {w : World} {b o n a m : Nat} {l : List Pr} (h : Prs w (some ⟨b, o, none⟩) n l) (h0 : a + m ≤ n) (hl : 0 < n) : Prs w (some ⟨b, o + a * 2, none⟩) m ((l.drop a).take m) := by
  obtain ⟨b', o', e, hlt, hc⟩ := h.2 hl
  injection e with e; injection e with e1 e2; subst e1 e2
  have hn := h.1
  refine ⟨by rw [List.length_take, List.length_drop]; omega, fun _ => ⟨b, o + a * 2, rfl, hlt, fun i hi => ?_⟩⟩
  have e : gp ((l.drop a).take m) i = gp l (a + i) := by
    rw [gp_lt (by rw [List.length_take, List.length_drop]; omega), gp_lt (by omega), List.getElem_take, List.getElem_drop]
  rw [e, show o + a * 2 + i * 2 = o + (a + i) * 2 by omega]
  exact hc (a + i) (by omega)
def GetPrs (w0 : World) (w : World) (l : List Pr) (e : Ending) (w' : World) : Prop := ∃ A n c, e = .returned (.slice A n c) ∧ Prs w0 A n l ∧ Below w.heap.size w w'
end If
end Go.Df
namespace Go.Df
open Go.RowKit
theorem new2T (w : World) (b : Nat) (u v : Value) (t : TypeId) (hb : b = w.heap.size) : Rd (w.alloc (.cells #[u, v] t)) 2 (some ⟨b, 0, none⟩) 1 [u, v] := by
  subst hb
  refine ⟨rfl, fun _ => ⟨_, _, rfl, by simp, fun j _ => ?_⟩⟩
  rw [World.cell?_alloc_new, Nat.zero_add]; simp
namespace If
def prcells (l : List Pr) : List Value := l.flatMap fun x => [.int .i64 x.i, .int .i64 x.o]
theorem prcells_snoc (l : List Pr) (x : Pr) : prcells l ++ [.int .i64 x.i, .int .i64 x.o] = prcells (l ++ [x]) := by simp [prcells]
theorem prcells_at : ∀ (l : List Pr) {i : Nat} (_ : i < l.length), (prcells l)[i * 2]? = some (.int .i64 (gp l i).i) ∧ (prcells l)[i * 2 + 1]? = some (.int .i64 (gp l i).o)
  | x :: l, 0, _ => by simp [prcells, gp]
  | x :: l, i + 1, h => by
    have h1 := prcells_at l (i := i) (by simpa using h)
    have e : prcells (x :: l) = [.int .i64 x.i, .int .i64 x.o] ++ prcells l := rfl
    have e2 : gp (x :: l) (i + 1) = gp l i := by simp [gp]
    rw [e, e2]
    refine ⟨?_, ?_⟩
    · rw [List.getElem?_append_right (by simp; omega), show (i + 1) * 2 - [Value.int .i64 x.i, .int .i64 x.o].length = i * 2 by simp; omega]; exact h1.1
    · rw [List.getElem?_append_right (by simp; omega), show (i + 1) * 2 + 1 - [Value.int .i64 x.i, .int .i64 x.o].length = i * 2 + 1 by simp; omega]; exact h1.2
theorem Prs.own {w : World} {base : Nat} {e : TypeId} {A : Option Addr} {n c : Nat} {l : List Pr} (h : w.ownsRow base e 2 (.slice A n c) n (prcells l)) (hl : l.length = n) : Prs w A n l ∧ n ≤ c := by
  by_cases h0 : 0 < n
  · obtain ⟨g, c', hv, hb, hg, hc, -, hcell, -⟩ := own_cellsT h h0
    injection hv with e1 e2 e3
    subst e1
    subst e3
    exact ⟨⟨hl, fun _ => ⟨g, 0, rfl, hg, fun i hi => by
      obtain ⟨h1, h2⟩ := prcells_at l (i := i) (by omega)
      rw [Nat.zero_add, hcell _ (by omega), hcell _ (by omega)]
      exact ⟨h1, h2⟩⟩⟩, hc⟩
  · exact ⟨⟨hl, fun h => absurd h h0⟩, by omega⟩
end If
end Go.Df
namespace Go.Proofs.YtincpmdldpakkaaDoor
open Go.RowKit Go.Df Go.Df.If
end Go.Proofs.YtincpmdldpakkaaDoor
namespace Go.Df
open Go.RowKit
namespace Sp
structure Xp where
  i : Int
  o : Int
  k : Int
  b : Int
  c : Int
deriving DecidableEq
structure Vs where
  n : Int
  f : Int
  k : Int
  v : Int
deriving DecidableEq
def xerr (k b c : Int) : Int := if k < 0 ∨ 4 < k then 12 else if (b ≠ 0 ∧ k ≠ 2 ∧ k ≠ 3) ∨ (c ≠ 0 ∧ k ≠ 1 ∧ k ≠ 3) then 1 else 0
def verr (k n : Int) : Int := if k < 0 ∨ 2 < k then 12 else if n ≠ 0 ∧ k ≠ 1 then 1 else 0
def gx (l : List Xp) (i : Nat) : Xp := l.getD i ⟨0, 0, 0, 0, 0⟩
def gs (l : List Vs) (i : Nat) : Vs := l.getD i ⟨0, 0, 0, 0⟩
theorem gx_lt {l : List Xp} {i : Nat} (h : i < l.length) : gx l i = l[i] := by simp [gx, h]
theorem gs_lt {l : List Vs} {i : Nat} (h : i < l.length) : gs l i = l[i] := by simp [gs, h]
def lessP (a b : Xp) : Bool := if a.i ≠ b.i then decide (a.i < b.i) else decide (a.o < b.o)
def pairErr (F : Int) (l : List Xp) (j : Nat) : Int :=
  if (gx l j).i < 0 ∨ F ≤ (gx l j).i ∨ (gx l j).o < 0 ∨ F ≤ (gx l j).o then 4
  else if 0 < j ∧ lessP (gx l (j - 1)) (gx l j) = false then 13 else xerr (gx l j).k (gx l j).b (gx l j).c
def pairsErr (F : Int) (l : List Xp) : Int :=
  if 8192 < l.length then 3 else if fe (pairErr F l) 0 l.length ≠ 0 then fe (pairErr F l) 0 l.length else if l.length = 0 ∨ gx l 0 ≠ ⟨0, 0, 2, 0, 0⟩ then 1 else 0
theorem pairs_hit {F : Int} {l : List Xp} {e : Int} {j : Nat} (h1 : l.length ≤ 8192) (h : ∀ x, x < j → pairErr F l x = 0) (hj : j < l.length) (he : pairErr F l j = e) (h0 : e ≠ 0) : pairsErr F l = e := by
  unfold pairsErr
  rw [if_neg (by omega), fe_hit h hj he h0, if_pos h0]
theorem pairs_end {F : Int} {l : List Xp} (h1 : l.length ≤ 8192) (h : ∀ x, x < l.length → pairErr F l x = 0) : pairsErr F l = if l.length = 0 ∨ gx l 0 ≠ ⟨0, 0, 2, 0, 0⟩ then 1 else 0 := by
  unfold pairsErr
  rw [if_neg (by omega), fe_ok l.length 0 (fun i _ hi => h i (by omega)), if_neg (by simp)]
end Sp
def Xps (w : World) (A : Option Addr) (n : Nat) (l : List Sp.Xp) : Prop :=
  l.length = n ∧ (0 < n → ∃ b o, A = some ⟨b, o, none⟩ ∧ b < w.heap.size ∧ ∀ i, i < n → w.cell? ⟨b, o + i * 5, none⟩ = some (.int .i64 (Sp.gx l i).i) ∧ w.cell? ⟨b, o + i * 5 + 1, none⟩ = some (.int .i64 (Sp.gx l i).o) ∧ w.cell? ⟨b, o + i * 5 + 2, none⟩ = some (.int .i64 (Sp.gx l i).k) ∧ w.cell? ⟨b, o + i * 5 + 3, none⟩ = some (.int .i64 (Sp.gx l i).b) ∧ w.cell? ⟨b, o + i * 5 + 4, none⟩ = some (.int .i64 (Sp.gx l i).c))
theorem Xps.later {w w' : World} {A : Option Addr} {n : Nat} {l : List Sp.Xp} (h : Xps w A n l) (hb : Below w.heap.size w w') : Xps w' A n l :=
  ⟨h.1, fun hn => by
    obtain ⟨b, o, e, hl, hc⟩ := h.2 hn
    exact ⟨b, o, e, Nat.lt_of_lt_of_le hl hb.size, fun i hi => ⟨(hb.cell (p := ⟨b, _, none⟩) hl).trans (hc i hi).1, (hb.cell (p := ⟨b, _, none⟩) hl).trans (hc i hi).2.1, (hb.cell (p := ⟨b, _, none⟩) hl).trans (hc i hi).2.2.1, (hb.cell (p := ⟨b, _, none⟩) hl).trans (hc i hi).2.2.2.1, (hb.cell (p := ⟨b, _, none⟩) hl).trans (hc i hi).2.2.2.2⟩⟩⟩
end Go.Df
namespace Go.Proofs.YtincpmdldpakkaaDoor
open Go.RowKit Go.Df
attribute [local go_sem ↓] Go.wp_at_zero Go.wp_at_succ
set_option maxHeartbeats 1000000 in
theorem xcheck_any (k b c : Int) (w : World) :
    Calls Tryd.prog 49 #[.agg #[.int .i64 k, .int .i64 b, .int .i64 c]] w fun e w' => e = .returned (.int .i64 (Sp.xerr k b c)) ∧ Below w.heap.size w w' := by
  go_enter Tryd.func49, Tryd.ntmps49
  go_wp2
  all_goals (go_returns; refine ⟨ret_int ?_, by go_grown⟩; unfold Sp.xerr; (repeat' split) <;> first | rfl | omega | (exfalso; omega) | (simp_all; done) | (simp_all; omega) | (exfalso; simp_all; omega))
set_option maxHeartbeats 1000000 in
theorem rxcheck_any (k b c : Int) (w : World) :
    Calls Tryd.prog 54 #[.agg #[.int .i64 k, .int .i64 b, .int .i64 c]] w fun e w' => e = .returned (.int .i64 (Sp.xerr k b c)) ∧ Below w.heap.size w w' := by
  go_enter Tryd.func54, Tryd.ntmps54
  go_wp2
  all_goals (go_returns; refine ⟨ret_int ?_, by go_grown⟩; unfold Sp.xerr; (repeat' split) <;> first | rfl | omega | (exfalso; omega) | (simp_all; done) | (simp_all; omega) | (exfalso; simp_all; omega))
set_option maxHeartbeats 1000000 in
theorem vcheckv_any (k n : Int) (w : World) :
    Calls Tryd.prog 21 #[.agg #[.int .i64 k, .int .i64 n]] w fun e w' => e = .returned (.int .i64 (Sp.verr k n)) ∧ Below w.heap.size w w' := by
  go_enter Tryd.func21, Tryd.ntmps21
  go_wp2
  all_goals (go_returns; refine ⟨ret_int ?_, by go_grown⟩; unfold Sp.verr; (repeat' split) <;> first | rfl | omega | (exfalso; omega) | (simp_all; done) | (simp_all; omega) | (exfalso; simp_all; omega))
set_option maxHeartbeats 1000000 in
theorem rvcheckv_any (k n : Int) (w : World) :
    Calls Tryd.prog 26 #[.agg #[.int .i64 k, .int .i64 n]] w fun e w' => e = .returned (.int .i64 (Sp.verr k n)) ∧ Below w.heap.size w w' := by
  go_enter Tryd.func26, Tryd.ntmps26
  go_wp2
  all_goals (go_returns; refine ⟨ret_int ?_, by go_grown⟩; unfold Sp.verr; (repeat' split) <;> first | rfl | omega | (exfalso; omega) | (simp_all; done) | (simp_all; omega) | (exfalso; simp_all; omega))
end Go.Proofs.YtincpmdldpakkaaDoor
namespace Go.Df
open Go.RowKit
theorem Sp.ordP_ge (a b : Sp.Xp) : decide (0 ≤ Sp.orL [Sp.cmpI a.i b.i, Sp.cmpI a.o b.o]) = !Sp.lessP a b := by
  unfold Sp.lessP
  rw [Sp.or_cmp, Sp.or_last]
  split <;> rfl
theorem two_ints (w : World) (x y : Int) (t : TypeId) (b : Nat) (hb : b = w.heap.size) : Ints (w.alloc (.cells #[.int .i64 x, .int .i64 y] t)) (some ⟨b, 0, none⟩) 2 [x, y] := by
  subst hb
  refine ⟨rfl, fun _ => ⟨_, _, rfl, by simp, fun i hi => ?_⟩⟩
  rw [World.cell?_alloc_new, Nat.zero_add]
  match i, hi with
  | 0, _ => rfl
  | 1, _ => rfl
structure Gv (w : World) : Prop where
  c0 : w.cell? ⟨0, 0, none⟩ = some (.int .i64 2)
  c1 : w.cell? ⟨0, 1, none⟩ = some (.int .i64 0)
  c2 : w.cell? ⟨0, 2, none⟩ = some (.int .i64 0)
  lt : 0 < w.heap.size
theorem Gv.later {w w' : World} (h : Gv w) (hb : Below w.heap.size w w') : Gv w' := ⟨(hb.cell (p := ⟨0, _, none⟩) h.lt).trans h.c0, (hb.cell (p := ⟨0, _, none⟩) h.lt).trans h.c1, (hb.cell (p := ⟨0, _, none⟩) h.lt).trans h.c2, Nat.lt_of_lt_of_le h.lt hb.size⟩
end Go.Df
namespace Go.Proofs.YtincpmdldpakkaaDoor
open Go.RowKit Go.Df
attribute [local go_sem ↓] Go.wp_at_zero Go.wp_at_succ
set_option maxRecDepth 100000 in
set_option maxHeartbeats 4000000 in
theorem cpairs_any (A : Option Addr) (n c : Nat) (F : Int) (l : List Sp.Xp) (w : World) (hp : Xps w A n l) (hgv : Gv w) :
    Calls Tryd.prog 20 #[.slice A n c, .int .i64 F] w fun e w' => e = .returned (.int .i64 (Sp.pairsErr F l)) ∧ Below w.heap.size w w' := by
  have HP := Lib.hid hp
  have HGV := Lib.hid hgv
  have HL := Lib.hid hp.1
  clear hp hgv
  by_cases t1 : 8192 < n
  · have d1 : decide ((8192 : Int) < n) = true := by simp; omega
    go_enter Tryd.func20, Tryd.ntmps20
    go_wp2_with fail
    go_ret
    exact ⟨ret_int (by unfold Sp.pairsErr; rw [HL.out, if_pos (by omega)]), Below.refl _ _⟩
  have d1 : decide ((8192 : Int) < n) = false := by simp; omega
  have h8 : Hid (l.length ≤ 8192) := by show _ ≤ _; rw [HL.out]; omega
  go_enter Tryd.func20, Tryd.ntmps20
  go_wp2_with fail
  go_loopw [13] (fun i wr => ∃ j : Nat, j ≤ n ∧ i = .int .i64 j ∧ Kept [] w wr ∧ Hid (∀ x, x < j → Sp.pairErr F l x = 0)) (fun i _ => n - (intOf i).toNat)
  case atStart => exact ⟨0, Nat.zero_le _, rfl, Kept.refl _ _, Lib.hid (fun j hj => absurd hj (by omega))⟩
  case round =>
    obtain ⟨j, hj, rfl, hkr, hno⟩ := hrel
    have hBr := hkr.toBelow
    by_cases hlt : j < n
    · obtain ⟨b, o, rfl, hl, hc⟩ := (HP.out.later hBr).2 (by omega)
      obtain ⟨h1, h2, h3, h4, h5⟩ := hc j hlt
      have HC := Lib.hid hc
      have LB := Lib.hid hl
      clear hc
      obtain ⟨xi, xo, xk, xb, xc, en⟩ : ∃ xi xo xk xb xc, Sp.gx l j = ⟨xi, xo, xk, xb, xc⟩ := ⟨_, _, _, _, _, rfl⟩
      rw [en] at h1 h2 h3 h4 h5
      have HE := Lib.hid en
      clear en
      go_upto_region 6 with fail
      refine wp_named (fun V => ∃ g, wr.heap.size = g ∧ Blk V g [.int .i64 xi, .int .i64 xo, .int .i64 xk, .int .i64 xb, .int .i64 xc] ∧ Kept [] wr V) ⟨_, rfl, Blk.new _ _ _ _ rfl, (Kept.refl _ _).alloc _⟩ ?_
      rintro V ⟨g, eg, Bg, hkV⟩
      rw [eg]
      have hkw : Kept [] w V := keptTrans hkr hkV
      have ⟨LG, CG, FG⟩ := Bg
      have hBV := hkw.toBelow
      clear h1 h2 h3 h4 h5 eg
      have hbad : Hid (∀ e, Sp.pairErr F l j = e → e ≠ 0 → Sp.pairsErr F l = e) := fun e h1 h2 => Sp.pairs_hit h8.out hno.out (by rw [HL.out]; exact hlt) h1 h2
      have hstep : Hid (Sp.pairErr F l j = 0 → ∀ x, x < j + 1 → Sp.pairErr F l x = 0) := fun h0 x hx => by
        rcases Nat.lt_or_ge x j with h9 | h9
        · exact hno.out x h9
        · obtain rfl : x = j := by omega
          exact h0
      have HEr : Hid (Sp.pairErr F l j = if xi < 0 ∨ F ≤ xi ∨ xo < 0 ∨ F ≤ xo then 4 else if 0 < j ∧ Sp.lessP (Sp.gx l (j - 1)) ⟨xi, xo, xk, xb, xc⟩ = false then 13 else Sp.xerr xk xb xc) := by
        show _ = _
        unfold Sp.pairErr
        rw [HE.out]
      by_cases r0 : xi < 0
      · have z : decide (xi < 0) = true := by simpa using r0
        have hE := Lib.hid (hbad.out 4 (by rw [HEr.out, if_pos (by omega)]) (by omega))
        go_wp2_with fail
        go_ret
        exact ⟨ret_int hE.out.symm, hBV⟩
      have z0 : decide (xi < 0) = false := by simpa using r0
      by_cases r1 : F ≤ xi
      · have z : decide (F ≤ xi) = true := by simpa using r1
        have hE := Lib.hid (hbad.out 4 (by rw [HEr.out, if_pos (by omega)]) (by omega))
        go_wp2_with fail
        go_ret
        exact ⟨ret_int hE.out.symm, hBV⟩
      have z1 : decide (F ≤ xi) = false := by simpa using r1
      by_cases r2 : xo < 0
      · have z : decide (xo < 0) = true := by simpa using r2
        have hE := Lib.hid (hbad.out 4 (by rw [HEr.out, if_pos (by omega)]) (by omega))
        go_wp2_with fail
        go_ret
        exact ⟨ret_int hE.out.symm, hBV⟩
      have z2 : decide (xo < 0) = false := by simpa using r2
      by_cases r3 : F ≤ xo
      · have z : decide (F ≤ xo) = true := by simpa using r3
        have hE := Lib.hid (hbad.out 4 (by rw [HEr.out, if_pos (by omega)]) (by omega))
        go_wp2_with fail
        go_ret
        exact ⟨ret_int hE.out.symm, hBV⟩
      have z3 : decide (F ≤ xo) = false := by simpa using r3
      have HEy : Hid (Sp.pairErr F l j = if 0 < j ∧ Sp.lessP (Sp.gx l (j - 1)) ⟨xi, xo, xk, xb, xc⟩ = false then 13 else Sp.xerr xk xb xc) := by
        show _ = _
        rw [HEr.out, if_neg (by omega)]
      clear HEr r0 r1 r2 r3
      by_cases hj0 : j = 0
      · have y1 : decide (0 < j) = false := by simp; omega
        have y2 : decide ((0 : Int) < (j : Int)) = false := by simp; omega
        have HEz : Hid (Sp.pairErr F l j = Sp.xerr xk xb xc) := by show _ = _; rw [HEy.out, if_neg (by omega)]
        clear hj0
        go_upto_region 8 with fail
        go_quiet (fail)
        go_wp2_with fail
        refine (xcheck_any xk xb xc _).mono ?_
        rintro e w5 ⟨rfl, hb5⟩
        have hk5 : Kept [] w w5 := (hkw.drewN _).call hb5
        by_cases hx0 : Sp.xerr xk xb xc = 0
        · rw [hx0]
          have hfin := Lib.hid (hstep.out (by rw [HEz.out, hx0]))
          clear hx0
          go_wp2_with fail
          exact ⟨⟨j + 1, by omega, by go_num, hk5, hfin⟩, by simp [intOf]; omega⟩
        · have hE := Lib.hid (hbad.out _ HEz.out hx0)
          have hx0' : (Sp.xerr xk xb xc != 0) = true := by simpa using hx0
          clear hx0
          go_wp2_with fail
          go_ret
          exact ⟨ret_int hE.out.symm, hk5.toBelow⟩
      have y1 : decide (0 < j) = true := by simp; omega
      have y2 : decide ((0 : Int) < (j : Int)) = true := by simp; omega
      have y3 : IntKind.i64.wrap ((j : Int) - 1) = (j : Int) - 1 := IntWalk.i64_in _ (by omega)
      have y4 : (0 : Int) ≤ (j : Int) - 1 := by omega
      have y5 : ((j : Int) - 1).toNat = j - 1 := by omega
      have y6 : (j : Int) - 1 < (n : Int) := by omega
      have y7 : 0 < j := by omega
      have y8 : 1 ≤ j := by omega
      have y9 : (1 : Int) ≤ (j : Int) := by omega
      have y10 : j ≤ n := by omega
      have y11 : j < n + 1 := by omega
      have y12 : (j : Int) < (n : Int) + 1 := by omega
      have y13 : (j : Int) ≤ (n : Int) := by omega
      obtain ⟨p1, p2, -, -, -⟩ := HC.out (j - 1) (by omega)
      obtain ⟨pi, po, pk, pb, pc, ep⟩ : ∃ pi po pk pb pc, Sp.gx l (j - 1) = ⟨pi, po, pk, pb, pc⟩ := ⟨_, _, _, _, _, rfl⟩
      rw [ep] at p1 p2
      have q1 : V.cell? ⟨b, o + (j - 1) * 5, none⟩ = some (.int .i64 pi) := (hkV.cell b _ LB.out (by simp)).trans p1
      have q2 : V.cell? ⟨b, o + (j - 1) * 5 + 1, none⟩ = some (.int .i64 po) := (hkV.cell b _ LB.out (by simp)).trans p2
      have hbV : b < V.heap.size := Nat.lt_of_lt_of_le LB.out hkV.size
      have HEx : Hid (Sp.pairErr F l j = if Sp.lessP ⟨pi, po, pk, pb, pc⟩ ⟨xi, xo, xk, xb, xc⟩ = false then 13 else Sp.xerr xk xb xc) := by
        show _ = _
        rw [HEy.out, ep]
        simp [y7]
      clear p1 p2 ep hj0
      go_upto_region 8 with fail
      go_cut [62] (fun s wx => s = .bool (!Sp.lessP ⟨pi, po, pk, pb, pc⟩ ⟨xi, xo, xk, xb, xc⟩) ∧ Kept [] V wx)
      case first =>
        go_region_held3 (fun w' => SX0 V w') (exact kp0)
          (first | (go_at_call 23; refine (compare_any _ _ _).mono ?_; rintro e w1 ⟨rfl, rfl⟩) | (go_at_call 22; refine (or_any _ _ _ [Sp.cmpI pi xi, Sp.cmpI po xo] _ (by first | exact two_ints _ _ _ _ _ (by first | rfl | simp) | exact Ints.drew (two_ints _ _ _ _ _ (by first | rfl | simp))) (by omega) (by omega)).mono ?_; rintro e w2 ⟨rfl, rfl⟩))
        all_goals
          go_wp2_with fail
          go_meet
          refine ⟨congrArg Value.bool (Sp.ordP_ge ⟨pi, po, pk, pb, pc⟩ ⟨xi, xo, xk, xb, xc⟩), ?_⟩
          (exact kpt0)
      case rest =>
        obtain ⟨rfl, hkc⟩ := hcut
        have hkwc : Kept [] w wc := keptTrans hkw hkc
        have ⟨LC, CC, FC⟩ := hkc.blk (by simp) Bg
        clear CG FG q1 q2
        by_cases hles : Sp.lessP ⟨pi, po, pk, pb, pc⟩ ⟨xi, xo, xk, xb, xc⟩ = true
        · rw [hles]
          have HEz : Hid (Sp.pairErr F l j = Sp.xerr xk xb xc) := by show _ = _; rw [HEx.out, hles, if_neg (by simp)]
          clear hles
          go_wp2_with fail
          refine (xcheck_any xk xb xc _).mono ?_
          rintro e w5 ⟨rfl, hb5⟩
          have hk5 : Kept [] w w5 := (hkwc).call hb5
          by_cases hx0 : Sp.xerr xk xb xc = 0
          · rw [hx0]
            have hfin := Lib.hid (hstep.out (by rw [HEz.out, hx0]))
            clear hx0
            go_wp2_with fail
            exact ⟨⟨j + 1, by omega, by go_num, hk5, hfin⟩, by simp [intOf]; omega⟩
          · have hE := Lib.hid (hbad.out _ HEz.out hx0)
            have hx0' : (Sp.xerr xk xb xc != 0) = true := by simpa using hx0
            clear hx0
            go_wp2_with fail
            go_ret
            exact ⟨ret_int hE.out.symm, hk5.toBelow⟩
        · rw [Bool.not_eq_true] at hles
          rw [hles]
          have hE := Lib.hid (hbad.out 13 (by rw [HEx.out, hles, if_pos rfl]) (by omega))
          clear hles
          go_wp2_with fail
          go_ret
          exact ⟨ret_int hE.out.symm, hkwc.toBelow⟩
    · obtain rfl : j = n := by omega
      have hall : Hid (∀ x, x < l.length → Sp.pairErr F l x = 0) := fun x hx => hno.out x (by rw [HL.out] at hx; exact hx)
      have HZ := Lib.hid (Sp.pairs_end h8.out hall.out)
      obtain ⟨gv0, gv1, gv2, gvl⟩ := HGV.out.later hBr
      clear hno hlt
      by_cases hn0 : j = 0
      · have k1 : ((j : Int) == 0) = true := by simp; omega
        have k2 : (j == 0) = true := by simp; omega
        have hE : Hid (Sp.pairsErr F l = 1) := by show _ = _; rw [HZ.out, if_pos (.inl (by rw [HL.out]; exact hn0))]
        have HN0 := Lib.hid hn0
        clear hn0
        go_upto_region 14 with fail
        go_quiet (fail)
        go_wp2_with fail
        go_ret
        exact ⟨ret_int hE.out.symm, (hkr.drewN _).toBelow⟩
      · have k1 : ((j : Int) == 0) = false := by simp; omega
        have k2 : (j == 0) = false := by simp; omega
        obtain ⟨b, o, rfl, hl, hc⟩ := (HP.out.later hBr).2 (by omega)
        obtain ⟨h1, h2, h3, h4, h5⟩ := hc 0 (by omega)
        simp only [Nat.zero_mul, Nat.add_zero] at h1 h2 h3 h4 h5
        obtain ⟨xi, xo, xk, xb, xc, en⟩ : ∃ xi xo xk xb xc, Sp.gx l 0 = ⟨xi, xo, xk, xb, xc⟩ := ⟨_, _, _, _, _, rfl⟩
        rw [en] at h1 h2 h3 h4 h5
        have hjp : 0 < j := by omega
        have HE : Hid (Sp.pairsErr F l = if (⟨xi, xo, xk, xb, xc⟩ : Sp.Xp) ≠ ⟨0, 0, 2, 0, 0⟩ then 1 else 0) := by
          show _ = _
          rw [HZ.out, en, HL.out]
          simp [hn0]
        clear en hc hn0
        by_cases hq : (⟨xi, xo, xk, xb, xc⟩ : Sp.Xp) = ⟨0, 0, 2, 0, 0⟩
        · obtain ⟨rfl, rfl, rfl, rfl, rfl⟩ : xi = 0 ∧ xo = 0 ∧ xk = 2 ∧ xb = 0 ∧ xc = 0 := by simpa using hq
          have hE := Lib.hid (HE.out.trans (if_neg (not_not_intro rfl)))
          clear hq
          go_upto_region 14 with fail
          go_quiet (fail)
          go_wp2_with fail
          go_ret
          exact ⟨ret_int hE.out.symm, (hkr.drewN _).toBelow⟩
        · have hE := Lib.hid (HE.out.trans (if_pos hq))
          have HQ := Lib.hid hq
          clear hq
          by_cases exi : xi = 0
          case neg =>
            have fxi : (xi == 0) = false := by simpa using exi
            have fxi' : (xi != 0) = true := by simpa using exi
            clear exi
            go_upto_region 14 with fail
            go_quiet (fail)
            go_wp2_with fail
            all_goals
              go_ret
              exact ⟨ret_int hE.out.symm, (hkr.drewN _).toBelow⟩
          subst exi
          by_cases exo : xo = 0
          case neg =>
            have fxo : (xo == 0) = false := by simpa using exo
            have fxo' : (xo != 0) = true := by simpa using exo
            clear exo
            go_upto_region 14 with fail
            go_quiet (fail)
            go_wp2_with fail
            all_goals
              go_ret
              exact ⟨ret_int hE.out.symm, (hkr.drewN _).toBelow⟩
          subst exo
          by_cases exk : xk = 2
          case neg =>
            have fxk : (xk == 2) = false := by simpa using exk
            have fxk' : (xk != 2) = true := by simpa using exk
            clear exk
            go_upto_region 14 with fail
            go_quiet (fail)
            go_wp2_with fail
            all_goals
              go_ret
              exact ⟨ret_int hE.out.symm, (hkr.drewN _).toBelow⟩
          subst exk
          by_cases exb : xb = 0
          case neg =>
            have fxb : (xb == 0) = false := by simpa using exb
            have fxb' : (xb != 0) = true := by simpa using exb
            clear exb
            go_upto_region 14 with fail
            go_quiet (fail)
            go_wp2_with fail
            all_goals
              go_ret
              exact ⟨ret_int hE.out.symm, (hkr.drewN _).toBelow⟩
          subst exb
          by_cases exc : xc = 0
          case neg =>
            have fxc : (xc == 0) = false := by simpa using exc
            have fxc' : (xc != 0) = true := by simpa using exc
            clear exc
            go_upto_region 14 with fail
            go_quiet (fail)
            go_wp2_with fail
            all_goals
              go_ret
              exact ⟨ret_int hE.out.symm, (hkr.drewN _).toBelow⟩
          subst exc
          exact absurd rfl HQ.out
end Go.Proofs.YtincpmdldpakkaaDoor
