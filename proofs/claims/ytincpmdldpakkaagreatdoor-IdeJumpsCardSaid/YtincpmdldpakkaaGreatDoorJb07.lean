/- Texts: Ib Ic Bf Tm. -/
import Derived.Test.YtincpmdldpakkaaGreatDoorJb06
import Derived.Test.YtincpmdldpakkaaGreatDoorJb05
import Derived.Sort.Statements
namespace Go.Df
open Go.RowKit
namespace If
open Sp
def stOf (ns : List Nd) : Nat → Nat
 | 0 => 0
 | i + 1 => if (gn ns (i + 1)).k = 1 then i + 1 else stOf ns i
theorem stOf_le (ns : List Nd) : ∀ i, stOf ns i ≤ i
 | 0 => Nat.le_refl _
 | i + 1 => by
   rw [stOf]
   split
   · exact Nat.le_refl _
   · exact Nat.le_succ_of_le (stOf_le ns i)
theorem stOf_hit {ns : List Nd} {j : Nat} : ∀ {i : Nat}, j ≤ i → (gn ns j).k = 1 → j ≤ stOf ns i ∧ (gn ns (stOf ns i)).k = 1
 | 0, h, hk => by obtain rfl : j = 0 := by omega
                  exact ⟨Nat.zero_le _, hk⟩
 | i + 1, h, hk => by
   rw [stOf]
   split
   · rename_i h1; exact ⟨h, h1⟩
   · rename_i h1
     by_cases e : j = i + 1
     · subst e; exact absurd hk h1
     · exact stOf_hit (by omega) hk
structure NdOk (ns : List Nd) : Prop where
 err : ∀ x, x < ns.length → nodeErr ns x = 0
 st : ∀ x, x < ns.length → ∃ j, j < ns.length ∧ (gn ns j).f = (gn ns x).f ∧ (gn ns j).k = 1
theorem ndOk_of {ns : List Nd} {m : Int} (h : nodesErr ns m = 0) : NdOk ns := by
 unfold nodesErr at h
 split at h
 · rename_i h0; exact absurd h h0
 · rename_i h0
   split at h
   · rename_i h1; exact absurd h h1
   · rename_i h1
     refine ⟨fun x hx => fe_zero _ _ (Decidable.byContradiction h0) x (Nat.zero_le _) (by omega), fun x hx => ?_⟩
     have h2 := fe_zero _ _ (Decidable.byContradiction h1) x (Nat.zero_le _) (by omega)
     unfold wholeErr at h2
     split at h2
     · cases h2
     · rename_i h3
       refine Classical.byContradiction fun h4 => h3 (.inl (kind_neg.2 fun j hj hh => h4 ⟨j, hj, hh.1, hh.2⟩))
theorem NdOk.kind {ns : List Nd} (h : NdOk ns) {x : Nat} (hx : x < ns.length) : 1 ≤ (gn ns x).k ∧ (gn ns x).k ≤ 4 := by
 have := h.err x hx
 unfold nodeErr at this
 split at this
 · cases this
 · omega
theorem NdOk.le {ns : List Nd} (h : NdOk ns) {i j : Nat} (hij : i ≤ j) (hj : j < ns.length) : (gn ns i).f ≤ (gn ns j).f := by
 by_cases e : i = j
 · rw [e]; exact Int.le_refl _
 · have := node_asc h.err j i (by omega) hj
   unfold lessN at this
   split at this
   · have := of_decide_eq_true this; omega
   · omega
theorem NdOk.ahead {ns : List Nd} (h : NdOk ns) {j x : Nat} (hj : j < ns.length) (hx : x < ns.length) (hf : (gn ns j).f = (gn ns x).f) (hk : (gn ns j).k = 1) : j ≤ x := by
 rcases Nat.lt_or_ge x j with h1 | h1
 · have h2 := node_asc h.err j x h1 hj
   have h3 := h.kind hx
   unfold lessN at h2
   rw [if_neg (by rw [hf]; simp)] at h2
   split at h2
   · have := of_decide_eq_true h2; omega
   · rename_i h4
     have h5 : (gn ns x).k = 1 := by rw [← hk]; exact Decidable.byContradiction h4
     have := of_decide_eq_true h2
     rw [node_i (h.err x hx) (by omega), node_i (h.err j hj) (by omega)] at this
     omega
 · exact h1
theorem NdOk.start {ns : List Nd} (h : NdOk ns) {x : Nat} (hx : x < ns.length) : (gn ns (stOf ns x)).f = (gn ns x).f ∧ (gn ns (stOf ns x)).k = 1 := by
 obtain ⟨j, hj, hf, hk⟩ := h.st x hx
 have h1 := h.ahead hj hx hf hk
 obtain ⟨h2, h3⟩ := stOf_hit h1 hk
 have h4 := stOf_le ns x
 have h5 := h.le h2 (by omega)
 have h6 := h.le h4 hx
 exact ⟨by omega, h3⟩
theorem NdOk.start_iff {ns : List Nd} (h : NdOk ns) {x s : Nat} (hx : x < ns.length) (hs : s < ns.length) (hk : (gn ns s).k = 1) : stOf ns x = s ↔ (gn ns s).f = (gn ns x).f := by
 have h1 := h.start hx
 constructor
 · rintro rfl; exact h1.1
 · intro hf
   have hl : stOf ns x < ns.length := by have := stOf_le ns x; omega
   have h2 := h.ahead hs hl (by rw [hf, h1.1]) hk
   have h3 := h.ahead hl hs (by rw [hf, h1.1]) h1.2
   omega
theorem Ok.nd {p : Pb} (h : Ok p) : NdOk p.ns := ndOk_of (sup_parts h.sup).2.2.1
theorem Ok.edge {p : Pb} (h : Ok p) {k : Nat} (hk : k < p.es.length) :
   0 ≤ (ge p.es k).a ∧ (ge p.es k).a < p.ns.length ∧ 0 ≤ (ge p.es k).b ∧ (ge p.es k).b < p.ns.length ∧ 1 ≤ (ge p.es k).k ∧ (ge p.es k).k ≤ 5 ∧ ((ge p.es k).k ≠ 1 → (ge p.es k).k ≠ 5 → 0 ≤ (ge p.es k).c ∧ (ge p.es k).c < p.ns.length) ∧ fitsB p.ns p.es (ge p.es k) = true := sup_edge h.sup hk
theorem Ok.call {p : Pb} (h : Ok p) {k : Nat} (hk : k < p.es.length) (h2 : (ge p.es k).k = 2) : (gn p.ns (ge p.es k).b.toNat).k = 1 ∧ (gn p.ns (ge p.es k).a.toNat).k = 2 ∧ (ge p.es k).c = (ge p.es k).a := by
 have h1 := (h.edge hk).2.2.2.2.2.2.2
 unfold fitsB fitsN at h1
 rw [if_neg (by omega), if_pos h2] at h1
 simp at h1
 exact ⟨h1.2, h1.1.1, h1.1.2⟩
theorem Ok.ret {p : Pb} (h : Ok p) {k : Nat} (hk : k < p.es.length) (h2 : (ge p.es k).k = 3 ∨ (ge p.es k).k = 4) : (gn p.ns (ge p.es k).a.toNat).k = 3 ∨ (gn p.ns (ge p.es k).a.toNat).k = 4 := by
 have h1 := (h.edge hk).2.2.2.2.2.2.2
 unfold fitsB fitsN at h1
 rw [if_neg (by omega), if_neg (by omega)] at h1
 split at h1
 · cases h1
 · omega
structure Clo (p : Pb) (T : Nat → Nat → Nat → Prop) : Prop where
 main : T 0 p.mn.toNat 0
 seed : ∀ s ∈ p.sd, T 0 s.n.toNat 0 → T 0 s.n.toNat s.f.toNat
 flow : ∀ k, k < p.es.length → ((ge p.es k).k = 1 ∨ (ge p.es k).k = 5) → ∀ q ∈ gf p.fl k, ∀ a, T a (ge p.es k).a.toNat q.i.toNat → T a (ge p.es k).b.toNat q.o.toNat
 call : ∀ k, k < p.es.length → (ge p.es k).k = 2 → ∀ q ∈ gf p.fl k, ∀ a, T a (ge p.es k).a.toNat q.i.toNat → T q.o.toNat (ge p.es k).b.toNat q.o.toNat
 ret : ∀ c, c < p.es.length → (ge p.es c).k = 2 → ∀ q ∈ gf p.fl c, ∀ r, r < p.es.length → ((ge p.es r).k = 3 ∨ (ge p.es r).k = 4) → ∀ s ∈ gf p.fl r, (ge p.es c).a = (ge p.es r).c → (gn p.ns (ge p.es c).b.toNat).f = (gn p.ns (ge p.es r).a.toNat).f →
   ∀ a, T a (ge p.es c).a.toNat q.i.toNat → T q.o.toNat (ge p.es r).a.toNat s.i.toNat → T a (ge p.es r).b.toNat s.o.toNat
theorem Clo.all {p : Pb} {T : Nat → Nat → Nat → Prop} (h : Clo p T) {a n d : Nat} (hp : PE p a n d) : T a n d := by
 induction hp with
 | main => exact h.main
 | seed _ hs ih => exact h.seed _ hs ih
 | flow hk hk2 hq _ ih => exact h.flow _ hk hk2 _ hq _ ih
 | call hk hk2 hq _ ih => exact h.call _ hk hk2 _ hq _ ih
 | ret hc hc2 hq hr hr2 hs e1 e2 _ _ ih1 ih2 => exact h.ret _ hc hc2 _ hq _ hr hr2 _ hs e1 e2 _ ih1 ih2
end If
end Go.Df
namespace Go.Df
open Go.RowKit
namespace If
open Sp
structure St where
 h : Nat → Nat → Nat → Bool
 e : Nat → Nat → Nat → Bool
 pd : Nat → List (Nat × Nat)
 q : List Nat
def St.add (s : St) (n a d : Nat) : St :=
 if s.h n a d = true then s else
   ⟨fun n' a' d' => s.h n' a' d' || (n' == n && (a' == a && d' == d)), s.e, fun n' => if n' = n then s.pd n ++ [(a, d)] else s.pd n', if s.pd n = [] then s.q ++ [n] else s.q⟩
def St.ent (s : St) (k b a : Nat) : St := ⟨s.h, fun k' b' a' => s.e k' b' a' || (k' == k && (b' == b && a' == a)), s.pd, s.q⟩
def froms (l : List Pr) (d : Nat) : List Pr := l.filter fun q => q.i == (d : Int)
def elems (F : Nat) (f : Nat → Bool) : List Nat := (List.range F).filter f
def outL (p : Pb) (n : Nat) : List Nat := (List.range p.es.length).filter fun k => (ge p.es k).a == (n : Int)
def callL (p : Pb) (n : Nat) : List Nat := (List.range p.es.length).filter fun k => (ge p.es k).k == 2 && (ge p.es k).b == (n : Int)
def retL (p : Pb) (n : Nat) : List Nat := (List.range p.es.length).filter fun k => ((ge p.es k).k == 3 || (ge p.es k).k == 4) && (ge p.es k).c == (n : Int)
def seedL (p : Pb) (n : Nat) : List Sd := p.sd.filter fun s => s.n == (n : Int)
def spread (p : Pb) (k a d : Nat) (s : St) : St := (froms (gf p.fl k) d).foldl (fun s q => s.add (ge p.es k).b.toNat a q.o.toNat) s
def enterR (p : Pb) (k a b : Nat) (s : St) (r : Nat) : St :=
 if stOf p.ns (ge p.es r).a.toNat = (ge p.es k).b.toNat then (elems p.F.toNat (s.h (ge p.es r).a.toNat b)).foldl (fun s f => spread p r a f s) s else s
def enter1 (p : Pb) (k a b : Nat) (s : St) : St :=
 if (s.add (ge p.es k).b.toNat b b).e k b a = true then s.add (ge p.es k).b.toNat b b else (retL p (ge p.es k).a.toNat).foldl (enterR p k a b) ((s.add (ge p.es k).b.toNat b b).ent k b a)
def enter (p : Pb) (k a d : Nat) (s : St) : St := (froms (gf p.fl k) d).foldl (fun s q => enter1 p k a q.o.toNat s) s
def leaveR (p : Pb) (n d : Nat) (cs : List Nat) (s : St) (r : Nat) : St := if (ge p.es r).a.toNat = n then cs.foldl (fun s a => spread p r a d s) s else s
def leave1 (p : Pb) (n b d : Nat) (s : St) (k : Nat) : St := (retL p (ge p.es k).a.toNat).foldl (leaveR p n d (elems p.F.toNat (s.e k b))) s
def leave (p : Pb) (n b d : Nat) (s : St) : St := (callL p (stOf p.ns n)).foldl (leave1 p n b d) s
def stepE (p : Pb) (a d : Nat) (s : St) (k : Nat) : St := if (ge p.es k).k = 1 ∨ (ge p.es k).k = 5 then spread p k a d s else if (ge p.es k).k = 2 then enter p k a d s else s
def stepA (p : Pb) (n a d : Nat) (s : St) : St := if a = 0 ∧ d = 0 then (seedL p n).foldl (fun s x => s.add n 0 x.f.toNat) s else s
def step (p : Pb) (n a d : Nat) (s : St) : St :=
 if (gn p.ns n).k = 3 ∨ (gn p.ns n).k = 4 then leave p n a d ((outL p n).foldl (stepE p a d) (stepA p n a d s)) else (outL p n).foldl (stepE p a d) (stepA p n a d s)
structure Le (s t : St) : Prop where
 h : ∀ n a d, s.h n a d = true → t.h n a d = true
 e : ∀ k b a, s.e k b a = true → t.e k b a = true
 pd : ∀ n x, x ∈ s.pd n → x ∈ t.pd n
 new : ∀ n a d, t.h n a d = true → s.h n a d = true ∨ (a, d) ∈ t.pd n
 old : ∀ n x, x ∈ t.pd n → x ∈ s.pd n ∨ s.h n x.1 x.2 = false
theorem Le.refl (s : St) : Le s s := ⟨fun _ _ _ h => h, fun _ _ _ h => h, fun _ _ h => h, fun _ _ _ h => .inl h, fun _ _ h => .inl h⟩
theorem Le.trans {s t u : St} (h : Le s t) (g : Le t u) : Le s u := by
 refine ⟨fun n a d x => g.h _ _ _ (h.h _ _ _ x), fun n a d x => g.e _ _ _ (h.e _ _ _ x), fun n x y => g.pd _ _ (h.pd _ _ y), fun n a d x => ?_, fun n x y => ?_⟩
 · rcases g.new _ _ _ x with y | y
   · rcases h.new _ _ _ y with z | z
     · exact .inl z
     · exact .inr (g.pd _ _ z)
   · exact .inr y
 · rcases g.old _ _ y with z | z
   · exact h.old _ _ z
   · refine .inr ?_
     cases hh : s.h n x.1 x.2 with
     | false => rfl
     | true => rw [h.h _ _ _ hh] at z; cases z
theorem mem_froms {l : List Pr} {d : Nat} {q : Pr} : q ∈ froms l d ↔ q ∈ l ∧ q.i = d := by simp [froms]
structure Snd (p : Pb) (s : St) : Prop where
 h : ∀ n a d, s.h n a d = true → PE p a n d
 e : ∀ k b a, s.e k b a = true → k < p.es.length ∧ (ge p.es k).k = 2 ∧ ∃ q ∈ gf p.fl k, q.o.toNat = b ∧ PE p a (ge p.es k).a.toNat q.i.toNat
theorem Snd.add {p : Pb} {s : St} (h : Snd p s) {n a d : Nat} (hp : PE p a n d) : Snd p (s.add n a d) := by
 unfold St.add
 split
 · exact h
 · refine ⟨fun n' a' d' h' => ?_, h.e⟩
   simp at h'
   rcases h' with h' | ⟨rfl, rfl, rfl⟩
   · exact h.h _ _ _ h'
   · exact hp
theorem fold_snd {p : Pb} {α : Type} {f : St → α → St} : ∀ (l : List α) (s : St), (∀ x ∈ l, ∀ t, Snd p t → Snd p (f t x)) → Snd p s → Snd p (l.foldl f s)
 | [], _, _, h => h
 | x :: l, s, hf, h => fold_snd l _ (fun y hy => hf y (by simp [hy])) (hf x (by simp) s h)
theorem outL_mem {p : Pb} {n k : Nat} : k ∈ outL p n ↔ k < p.es.length ∧ (ge p.es k).a = n := by simp [outL]
theorem callL_mem {p : Pb} {n k : Nat} : k ∈ callL p n ↔ k < p.es.length ∧ (ge p.es k).k = 2 ∧ (ge p.es k).b = n := by simp [callL]
theorem retL_mem {p : Pb} {n k : Nat} : k ∈ retL p n ↔ k < p.es.length ∧ ((ge p.es k).k = 3 ∨ (ge p.es k).k = 4) ∧ (ge p.es k).c = n := by simp [retL]
theorem elems_mem {F : Nat} {f : Nat → Bool} {x : Nat} : x ∈ elems F f ↔ x < F ∧ f x = true := by simp [elems]
theorem spread_ret {p : Pb} (ho : Ok p) {k r a b d : Nat} (hr : r < p.es.length) (hr2 : (ge p.es r).k = 3 ∨ (ge p.es r).k = 4) (he : k < p.es.length ∧ (ge p.es k).k = 2 ∧ ∃ q ∈ gf p.fl k, q.o.toNat = b ∧ PE p a (ge p.es k).a.toNat q.i.toNat)
   (hc : (ge p.es r).c = (ge p.es k).a) (hf : stOf p.ns (ge p.es r).a.toNat = (ge p.es k).b.toNat) (hp : PE p b (ge p.es r).a.toNat d) {s : St} (h : Snd p s) : Snd p (spread p r a d s) := by
 obtain ⟨hk, hk2, q0, hq0, hb, hp0⟩ := he
 have h1 := ho.edge hr
 have h2 := ho.edge hk
 have h3 := (ho.nd.start_iff (x := (ge p.es r).a.toNat) (s := (ge p.es k).b.toNat) (by omega) (by omega) (ho.call hk hk2).1).1 hf
 refine fold_snd _ s (fun q hq t ht => ht.add ?_) h
 obtain ⟨h4, h5⟩ := mem_froms.1 hq
 exact .ret hk hk2 hq0 hr hr2 h4 hc.symm h3 hp0 (by rw [h5, Int.toNat_natCast, hb]; exact hp)
theorem enter_snd {p : Pb} (ho : Ok p) {k a d : Nat} (hk : k < p.es.length) (hk2 : (ge p.es k).k = 2) (hp : PE p a (ge p.es k).a.toNat d) {s : St} (h : Snd p s) : Snd p (enter p k a d s) := by
 refine fold_snd _ s (fun q hq t ht => ?_) h
 obtain ⟨h2, h3⟩ := mem_froms.1 hq
 have hp' : PE p a (ge p.es k).a.toNat q.i.toNat := by rw [h3, Int.toNat_natCast]; exact hp
 have h4 := ht.add (PE.call hk hk2 h2 hp')
 unfold enter1
 split
 · exact h4
 · have he : k < p.es.length ∧ (ge p.es k).k = 2 ∧ ∃ q' ∈ gf p.fl k, q'.o.toNat = q.o.toNat ∧ PE p a (ge p.es k).a.toNat q'.i.toNat := ⟨hk, hk2, q, h2, rfl, hp'⟩
   refine fold_snd _ _ (fun r hr t ht => ?_) ⟨h4.h, fun k' b' a' h' => ?_⟩
   · obtain ⟨r1, r2, r3⟩ := retL_mem.1 hr
     unfold enterR
     split
     · rename_i hst
       refine fold_snd _ _ (fun f hf u hu => ?_) ht
       refine spread_ret ho r1 r2 he ?_ hst (ht.h _ _ _ (elems_mem.1 hf).2) hu
       have := ho.edge hk
       omega
     · exact ht
   · simp [St.ent] at h'
     rcases h' with h' | ⟨rfl, rfl, rfl⟩
     · exact h4.e _ _ _ h'
     · exact he
theorem leave_snd {p : Pb} (ho : Ok p) {n b d : Nat} (_hn : n < p.ns.length) (hp : PE p b n d) {s : St} (h : Snd p s) : Snd p (leave p n b d s) := by
 refine fold_snd _ s (fun k hk t ht => ?_) h
 obtain ⟨k1, k2, k3⟩ := callL_mem.1 hk
 refine fold_snd _ t (fun r hr u hu => ?_) ht
 obtain ⟨r1, r2, r3⟩ := retL_mem.1 hr
 unfold leaveR
 split
 · rename_i hrn
   refine fold_snd _ u (fun a ha v hv => ?_) hu
   have := ho.edge k1
   refine spread_ret ho r1 r2 (ht.e _ _ _ (elems_mem.1 ha).2) (by omega) (by rw [hrn]; omega) (by rw [hrn]; exact hp) hv
 · exact hu
structure Cp (p : Pb) (s : St) (D : Nat → Nat → Nat → Prop) : Prop where
 seed : ∀ n, D n 0 0 → ∀ x ∈ p.sd, x.n = n → s.h n 0 x.f.toNat = true
 flow : ∀ n a d, D n a d → ∀ k, k < p.es.length → ((ge p.es k).k = 1 ∨ (ge p.es k).k = 5) → (ge p.es k).a = n → ∀ q ∈ gf p.fl k, q.i = d → s.h (ge p.es k).b.toNat a q.o.toNat = true
 call : ∀ n a d, D n a d → ∀ k, k < p.es.length → (ge p.es k).k = 2 → (ge p.es k).a = n → ∀ q ∈ gf p.fl k, q.i = d → s.h (ge p.es k).b.toNat q.o.toNat q.o.toNat = true ∧ s.e k q.o.toNat a = true
 ret : ∀ k b a, s.e k b a = true → ∀ r, r < p.es.length → ((ge p.es r).k = 3 ∨ (ge p.es r).k = 4) → (ge p.es r).c = (ge p.es k).a → stOf p.ns (ge p.es r).a.toNat = (ge p.es k).b.toNat → ∀ d, D (ge p.es r).a.toNat b d → ∀ q ∈ gf p.fl r, q.i = d → s.h (ge p.es r).b.toNat a q.o.toNat = true
def Dn (s : St) (n : Nat) (rest : List (Nat × Nat)) (n' a d : Nat) : Prop := s.h n' a d = true ∧ (a, d) ∉ s.pd n' ∧ ¬ (n' = n ∧ (a, d) ∈ rest)
def CpR (p : Pb) (s : St) (D : Nat → Nat → Nat → Prop) : Prop := ∀ k b a, s.e k b a = true → ∀ r, r < p.es.length → ((ge p.es r).k = 3 ∨ (ge p.es r).k = 4) → (ge p.es r).c = (ge p.es k).a → stOf p.ns (ge p.es r).a.toNat = (ge p.es k).b.toNat → ∀ d, D (ge p.es r).a.toNat b d → ∀ q ∈ gf p.fl r, q.i = d → s.h (ge p.es r).b.toNat a q.o.toNat = true
theorem CpR.mono {p : Pb} {s t : St} {D : Nat → Nat → Nat → Prop} (h : CpR p s D) (hl : Le s t) (he : t.e = s.e) : CpR p t D := fun k b a hk r r1 r2 r3 r4 d hd q hq hi => hl.h _ _ _ (h k b a (by rw [← he]; exact hk) r r1 r2 r3 r4 d hd q hq hi)
end If
end Go.Df
namespace Go.Df
open Go.RowKit
namespace Iv
open Sp
structure Vb where
 ns : List Nd
 es : List Ed
 mn : Int
 F : Int
 fl : List (List Xp)
 sd : List Vs
def pf (p : Vb) : If.Pb := ⟨p.ns, p.es, p.mn, p.F, p.fl.map (List.map fun q => ⟨q.i, q.o⟩), p.sd.map fun s => ⟨s.n, s.f⟩⟩
def vErr (p : Vb) : Int := ideErr p.ns p.es p.mn p.F p.fl p.sd
structure VFit (p : Vb) : Prop where
 fl : ∀ k, ∀ q ∈ gl p.fl k, wrap64 q.b = q.b ∧ wrap64 q.c = q.c
 sd : ∀ s ∈ p.sd, wrap64 s.v = s.v
structure VOk (p : Vb) : Prop where
 sup : superErr p.ns p.es p.mn = 0
 f1 : 1 ≤ p.F
 f2 : p.F ≤ 1024
 len : p.fl.length = p.es.length
 fl : ∀ k, k < p.fl.length → (gl p.fl k).length ≤ 8192 ∧ (∀ j, j < (gl p.fl k).length → pairErr p.F (gl p.fl k) j = 0) ∧ 0 < (gl p.fl k).length ∧ gx (gl p.fl k) 0 = ⟨0, 0, 2, 0, 0⟩
 sd : ∀ j, j < p.sd.length → seedErr p.ns.length p.F p.sd j = 0
theorem vok_of {p : Vb} (h : vErr p = 0) : VOk p := by
 unfold vErr ideErr at h
 by_cases h1 : superErr p.ns p.es p.mn = 0
 case neg => rw [if_pos h1] at h; exact absurd h h1
 rw [if_neg (not_not_intro h1)] at h
 by_cases h2 : p.F < 1 ∨ 1024 < p.F
 · rw [if_pos h2] at h; cases h
 rw [if_neg h2] at h
 by_cases h3 : p.fl.length = p.es.length
 case neg => rw [if_pos h3] at h; cases h
 rw [if_neg (not_not_intro h3)] at h
 by_cases h4 : fe (fun i => pairsErr p.F (gl p.fl i)) 0 p.fl.length = 0
 case neg => rw [if_pos h4] at h; exact absurd h h4
 rw [if_neg (not_not_intro h4)] at h
 refine ⟨h1, by omega, by omega, h3, fun k hk => ?_, fun j hj => Sp.fe_zero _ _ h j (Nat.zero_le _) (by omega)⟩
 have h5 := Sp.fe_zero _ _ h4 k (Nat.zero_le _) (by omega)
 unfold pairsErr at h5
 by_cases h6 : 8192 < (gl p.fl k).length
 · rw [if_pos h6] at h5; cases h5
 rw [if_neg h6] at h5
 by_cases h7 : fe (pairErr p.F (gl p.fl k)) 0 (gl p.fl k).length = 0
 case neg => rw [if_pos h7] at h5; exact absurd h5 h7
 rw [if_neg (not_not_intro h7)] at h5
 by_cases h8 : (gl p.fl k).length = 0 ∨ gx (gl p.fl k) 0 ≠ ⟨0, 0, 2, 0, 0⟩
 · rw [if_pos h8] at h5; cases h5
 · rw [not_or, Classical.not_not] at h8
   exact ⟨by omega, fun j hj => Sp.fe_zero _ _ h7 j (Nat.zero_le _) (by omega), by omega, h8.2⟩
theorem pair_in {F : Int} {l : List Xp} {j : Nat} (h : pairErr F l j = 0) : 0 ≤ (gx l j).i ∧ (gx l j).i < F ∧ 0 ≤ (gx l j).o ∧ (gx l j).o < F ∧ xerr (gx l j).k (gx l j).b (gx l j).c = 0 ∧ (0 < j → lessP (gx l (j - 1)) (gx l j) = true) := by
 unfold pairErr at h
 split at h
 · cases h
 · split at h
   · cases h
   · rename_i h1 h2
     refine ⟨by omega, by omega, by omega, by omega, h, fun h3 => ?_⟩
     cases hh : lessP (gx l (j - 1)) (gx l j) with
     | true => rfl
     | false => exact absurd ⟨h3, hh⟩ h2
theorem gl_ge {ls : List (List Xp)} {i : Nat} (h : ls.length ≤ i) : gl ls i = [] := by simp [gl, h]
theorem mem_gx {l : List Xp} {q : Xp} (h : q ∈ l) : ∃ i, i < l.length ∧ gx l i = q := by
 obtain ⟨i, hi, rfl⟩ := List.getElem_of_mem h
 exact ⟨i, hi, gx_lt hi⟩
theorem gx_mem {l : List Xp} {i : Nat} (h : i < l.length) : gx l i ∈ l := by rw [gx_lt h]; exact List.getElem_mem h
theorem mem_gs {l : List Vs} {q : Vs} (h : q ∈ l) : ∃ i, i < l.length ∧ gs l i = q := by
 obtain ⟨i, hi, rfl⟩ := List.getElem_of_mem h
 exact ⟨i, hi, gs_lt hi⟩
theorem gs_mem {l : List Vs} {i : Nat} (h : i < l.length) : gs l i ∈ l := by rw [gs_lt h]; exact List.getElem_mem h
theorem mem_gl {ls : List (List Xp)} {k : Nat} {q : Xp} (h : q ∈ gl ls k) : k < ls.length := by
 rcases Nat.lt_or_ge k ls.length with h1 | h1
 · exact h1
 · rw [gl_ge h1] at h; cases h
theorem VOk.pair {p : Vb} (h : VOk p) {k : Nat} {q : Xp} (hq : q ∈ gl p.fl k) : 0 ≤ q.i ∧ q.i < p.F ∧ 0 ≤ q.o ∧ q.o < p.F ∧ xerr q.k q.b q.c = 0 := by
 obtain ⟨j, hj, rfl⟩ := mem_gx hq
 have h1 := pair_in ((h.fl k (mem_gl hq)).2.1 j hj)
 exact ⟨h1.1, h1.2.1, h1.2.2.1, h1.2.2.2.1, h1.2.2.2.2.1⟩
theorem VOk.seed {p : Vb} (h : VOk p) {s : Vs} (hs : s ∈ p.sd) : 0 ≤ s.n ∧ s.n < p.ns.length ∧ 1 ≤ s.f ∧ s.f < p.F ∧ verr s.k s.v = 0 := by
 obtain ⟨j, hj, rfl⟩ := mem_gs hs
 have h1 := h.sd j hj
 unfold seedErr at h1
 split at h1
 · cases h1
 · split at h1
   · rename_i h2 h3; exact absurd h1 h3
   · rename_i h2 h3
     exact ⟨by omega, by omega, by omega, by omega, Classical.not_not.mp h3⟩
theorem pf_gf (p : Vb) (k : Nat) : If.gf (pf p).fl k = (gl p.fl k).map fun q => ⟨q.i, q.o⟩ := by
 show If.gf (p.fl.map _) k = _
 unfold If.gf gl
 rw [List.getD_eq_getElem?_getD, List.getD_eq_getElem?_getD, List.getElem?_map]
 cases p.fl[k]? <;> rfl
theorem pf_gp (l : List Xp) (j : Nat) : If.gp (l.map fun q => ⟨q.i, q.o⟩) j = ⟨(gx l j).i, (gx l j).o⟩ := by
 unfold If.gp gx
 rw [List.getD_eq_getElem?_getD, List.getD_eq_getElem?_getD, List.getElem?_map]
 cases l[j]? <;> rfl
theorem pf_gd (l : List Vs) (j : Nat) : If.gd (l.map fun q => ⟨q.n, q.f⟩) j = ⟨(gs l j).n, (gs l j).f⟩ := by
 unfold If.gd gs
 rw [List.getD_eq_getElem?_getD, List.getD_eq_getElem?_getD, List.getElem?_map]
 cases l[j]? <;> rfl
theorem VOk.pf {p : Vb} (h : VOk p) : If.Ok (pf p) := by
 refine ⟨h.sup, h.f1, h.f2, by show (p.fl.map _).length = _; rw [List.length_map]; exact h.len, fun k hk => ?_, fun j hj => ?_⟩
 · have hk' : k < p.fl.length := by have : k < (p.fl.map (List.map fun q => (⟨q.i, q.o⟩ : If.Pr))).length := hk; simpa using this
   have h1 := h.fl k hk'
   rw [pf_gf]
   refine ⟨by simpa using h1.1, fun j hj => ?_, by simpa using h1.2.2.1, by rw [pf_gp, h1.2.2.2]⟩
   have hj' : j < (gl p.fl k).length := by simpa using hj
   have h2 := pair_in (h1.2.1 j hj')
   unfold If.prErr
   rw [pf_gp, pf_gp]
   dsimp only
   have hF : (Iv.pf p).F = p.F := rfl
   rw [hF, if_neg (by omega), if_neg (fun hh => by
     have h3 := h2.2.2.2.2.2 hh.1
     have h4 : If.lessR ⟨(gx (gl p.fl k) (j - 1)).i, (gx (gl p.fl k) (j - 1)).o⟩ ⟨(gx (gl p.fl k) j).i, (gx (gl p.fl k) j).o⟩ = lessP (gx (gl p.fl k) (j - 1)) (gx (gl p.fl k) j) := rfl
     rw [h4, h3] at hh
     cases hh.2)]
 · have hj' : j < p.sd.length := by have : j < (p.sd.map fun s => (⟨s.n, s.f⟩ : If.Sd)).length := hj; simpa using this
   have h1 := h.sd j hj'
   have h2 := h.seed (gs_mem hj')
   have e : (Iv.pf p).sd = p.sd.map fun s => ⟨s.n, s.f⟩ := rfl
   unfold If.sdErr
   rw [e, pf_gd, pf_gd]
   dsimp only
   have hF : (Iv.pf p).F = p.F := rfl
   have hN : (Iv.pf p).ns.length = p.ns.length := rfl
   rw [hF, hN, if_neg (by omega), if_neg (fun hh => ?_)]
   unfold seedErr at h1
   rw [if_neg (by omega), if_neg (by rw [h2.2.2.2.2]; simp)] at h1
   rw [if_pos ⟨hh.1, hh.2⟩] at h1
   cases h1
open Classical in
/-- The transformer of a pair. -/
noncomputable def xd (q : Xp) : D := if h : Go.Proofs.YtincpmdldpakkaaGreatDoor.Xf.rcheck ⟨q.k, q.b, q.c⟩ = 0 ∧ Go.Proofs.YtincpmdldpakkaaGreatDoor.Xf.fits ⟨q.k, q.b, q.c⟩ then mkD ⟨q.k, q.b, q.c⟩ h else top
theorem xerr_rcheck (k b c : Int) : xerr k b c = Go.Proofs.YtincpmdldpakkaaGreatDoor.Xf.rcheck ⟨k, b, c⟩ := by
 unfold xerr Go.Proofs.YtincpmdldpakkaaGreatDoor.Xf.rcheck
 rfl
theorem xd_is {q : Xp} (h : xerr q.k q.b q.c = 0) (hb : wrap64 q.b = q.b) (hc : wrap64 q.c = q.c) : (xd q).1 = ⟨q.k, q.b, q.c⟩ := by
 unfold xd
 split
 · exact mkD_val _
 · rename_i h1
   exact absurd ⟨by rw [← xerr_rcheck]; exact h, hb, hc⟩ h1
theorem xd_of {p : Vb} (ho : VOk p) (hf : VFit p) {k : Nat} {q : Xp} (hq : q ∈ gl p.fl k) : (xd q).1 = ⟨q.k, q.b, q.c⟩ :=
 xd_is (ho.pair hq).2.2.2.2 (hf.fl k q hq).1 (hf.fl k q hq).2
def sx (s : Vs) : D := if s.k = 1 then (if h : wrap64 s.v = s.v then mkD ⟨1, 0, s.v⟩ ⟨check_const s.v, wrap_zero, h⟩ else top) else if s.k = 2 then bot else top
structure Clo (p : Vb) (T : Nat → Nat → Nat → D) : Prop where
 main : le (T p.mn.toNat 0 0) shift
 seed : ∀ s ∈ p.sd, T s.n.toNat 0 0 ≠ top → le (T s.n.toNat 0 s.f.toNat) (sx s)
 flow : ∀ k, k < p.es.length → ((ge p.es k).k = 1 ∨ (ge p.es k).k = 5) → ∀ q ∈ gl p.fl k, ∀ a, le (T (ge p.es k).b.toNat a q.o.toNat) (comp (T (ge p.es k).a.toNat a q.i.toNat) (xd q))
 call : ∀ k, k < p.es.length → (ge p.es k).k = 2 → ∀ q ∈ gl p.fl k, ∀ a, T (ge p.es k).a.toNat a q.i.toNat ≠ top → xd q ≠ top → le (T (ge p.es k).b.toNat q.o.toNat q.o.toNat) shift
 ret : ∀ c, c < p.es.length → (ge p.es c).k = 2 → ∀ q ∈ gl p.fl c, ∀ r, r < p.es.length → ((ge p.es r).k = 3 ∨ (ge p.es r).k = 4) → ∀ s ∈ gl p.fl r, (ge p.es c).a = (ge p.es r).c → (gn p.ns (ge p.es c).b.toNat).f = (gn p.ns (ge p.es r).a.toNat).f →
   ∀ a, le (T (ge p.es r).b.toNat a s.o.toNat) (comp (comp (comp (T (ge p.es c).a.toNat a q.i.toNat) (xd q)) (T (ge p.es r).a.toNat q.o.toNat s.i.toNat)) (xd s))
def Snd (p : Vb) (T : Nat → Nat → Nat → D) : Prop := ∀ U, Clo p U → ∀ n a d, le (U n a d) (T n a d)
theorem clo_eq {p : Vb} {T U : Nat → Nat → Nat → D} (hT : Clo p T) (sT : Snd p T) (hU : Clo p U) (sU : Snd p U) (n a d : Nat) : T n a d = U n a d := le_antisymm (sU T hT n a d) (sT U hU n a d)
structure VClo (p : Vb) (T : Nat → Nat → Nat → D) (V : Nat → Nat → U) : Prop where
 main : leV (V p.mn.toNat 0) botV
 call : ∀ k, k < p.es.length → (ge p.es k).k = 2 → ∀ q ∈ gl p.fl k, ∀ a, leV (V (ge p.es k).b.toNat q.o.toNat) (app (comp (T (ge p.es k).a.toNat a q.i.toNat) (xd q)) (V (If.stOf p.ns (ge p.es k).a.toNat) a))
def VSnd (p : Vb) (T : Nat → Nat → Nat → D) (V : Nat → Nat → U) : Prop := ∀ Y, VClo p T Y → ∀ n a, leV (Y n a) (V n a)
theorem vclo_eq {p : Vb} {T : Nat → Nat → Nat → D} {V W : Nat → Nat → U} (hV : VClo p T V) (sV : VSnd p T V) (hW : VClo p T W) (sW : VSnd p T W) (n a : Nat) : V n a = W n a := leV_antisymm (sW V hV n a) (sV W hW n a)
def Glb (S : U → Prop) (v : U) : Prop := (∀ u, S u → leV v u) ∧ ∀ z, (∀ u, S u → leV z u) → leV z v
theorem Glb.eq {S : U → Prop} {v w : U} (h : Glb S v) (k : Glb S w) : v = w := leV_antisymm (k.2 v h.1) (h.2 w k.1)
theorem Glb.none {S : U → Prop} (h : ∀ u, ¬ S u) : Glb S topV := ⟨fun u hu => absurd hu (h u), fun z _ => leV_top z⟩
theorem Glb.add {S S' : U → Prop} {v u : U} (h : Glb S v) (hs : ∀ x, S' x ↔ S x ∨ x = u) : Glb S' (meetV v u) := by
 refine ⟨fun x hx => ?_, fun z hz => le_meetV (h.2 z fun x hx => hz x ((hs x).2 (.inl hx))) (hz u ((hs u).2 (.inr rfl)))⟩
 rcases (hs x).1 hx with h1 | rfl
 · exact leV_trans (meetV_le_left v u) (h.1 x h1)
 · exact meetV_le_right v x
theorem Glb.iff {S S' : U → Prop} {v : U} (h : Glb S v) (hs : ∀ x, S' x ↔ S x) : Glb S' v := ⟨fun u hu => h.1 u ((hs u).1 hu), fun z hz => h.2 z fun u hu => hz u ((hs u).2 hu)⟩
def At (p : Vb) (T : Nat → Nat → Nat → D) (V : Nat → Nat → U) (n d : Nat) (u : U) : Prop := ∃ a, u = app (T n a d) (V (If.stOf p.ns n) a)
end Iv
end Go.Df
namespace Go.Df
open Go.RowKit
namespace Iv
open Sp
structure Jp where
 n : Int
 i : Int
 o : Int
 k : Int
 b : Int
 c : Int
deriving DecidableEq, Inhabited
def jc (j : Jp) : List Value := [.int .i64 j.n, .int .i64 j.i, .int .i64 j.o, .int .i64 j.k, .int .i64 j.b, .int .i64 j.c]
def jOf (n a d : Nat) (x : D) : Jp := ⟨n, a, d, x.1.k, x.1.b, x.1.c⟩
def j1 (T : Nat → Nat → Nat → D) (n a d : Nat) : List Jp := if T n a d = top then [] else [jOf n a d (T n a d)]
def jrow (T : Nat → Nat → Nat → D) (n a f : Nat) : List Jp := (List.range f).flatMap fun d => j1 T n a d
def jnode (T : Nat → Nat → Nat → D) (n f m : Nat) : List Jp := (List.range m).flatMap fun a => jrow T n a f
def jall (T : Nat → Nat → Nat → D) (f N : Nat) : List Jp := (List.range N).flatMap fun n => jnode T n f f
section
variable {T : Nat → Nat → Nat → D} {n a d f m N : Nat}
theorem jrow_succ : jrow T n a (d + 1) = jrow T n a d ++ j1 T n a d := by simp [jrow, List.range_succ]
theorem jnode_succ : jnode T n f (m + 1) = jnode T n f m ++ jrow T n m f := by simp [jnode, List.range_succ]
theorem jall_succ : jall T f (N + 1) = jall T f N ++ jnode T N f f := by simp [jall, List.range_succ]
theorem j1_len : (j1 T n a d).length ≤ 1 := by unfold j1; split <;> simp
theorem jrow_len : (jrow T n a f).length ≤ f := by
 induction f with
 | zero => simp [jrow]
 | succ f ih => rw [jrow_succ, List.length_append]; have := j1_len (T := T) (n := n) (a := a) (d := f); omega
theorem jnode_len : (jnode T n f m).length ≤ m * f := by
 induction m with
 | zero => simp [jnode]
 | succ m ih => rw [jnode_succ, List.length_append, Nat.succ_mul]; have := jrow_len (T := T) (n := n) (a := m) (f := f); omega
theorem jall_len : (jall T f N).length ≤ N * (f * f) := by
 induction N with
 | zero => simp [jall]
 | succ N ih => rw [jall_succ, List.length_append, Nat.succ_mul]; have := jnode_len (T := T) (n := N) (f := f) (m := f); omega
theorem mem_jnode {j : Jp} : j ∈ jnode T n f m ↔ ∃ a d, a < m ∧ d < f ∧ T n a d ≠ top ∧ j = jOf n a d (T n a d) := by
 unfold jnode jrow
 simp only [List.mem_flatMap, List.mem_range]
 constructor
 · rintro ⟨a, ha, d, hd, h⟩
   unfold j1 at h
   split at h
   · cases h
   · rename_i h1
     exact ⟨a, d, ha, hd, h1, by simpa using h⟩
 · rintro ⟨a, d, ha, hd, h1, rfl⟩
   exact ⟨a, ha, d, hd, by unfold j1; rw [if_neg h1]; simp⟩
def jlt (x y : Jp) : Prop := x.i < y.i ∨ (x.i = y.i ∧ x.o < y.o)
theorem jlt_irr {a : Jp} : ¬ jlt a a := by unfold jlt; omega
theorem jlt_asym {a b : Jp} (h : jlt a b) : ¬ jlt b a := by unfold jlt at h ⊢; omega
theorem j_eq : ∀ {a b : List Jp}, a.Pairwise jlt → b.Pairwise jlt → (∀ q, q ∈ a ↔ q ∈ b) → a = b
 | [], [], _, _, _ => rfl
 | [], y :: b, _, _, h => absurd ((h y).2 (by simp)) (by simp)
 | x :: a, [], _, _, h => absurd ((h x).1 (by simp)) (by simp)
 | x :: a, y :: b, ha, hb, h => by
   rw [List.pairwise_cons] at ha hb
   have e : x = y := by
     have h1 := (h x).1 (by simp)
     have h2 := (h y).2 (by simp)
     rcases List.mem_cons.1 h1 with e | h1
     · exact e
     · rcases List.mem_cons.1 h2 with e | h2
       · exact e.symm
       · exact absurd (hb.1 x h1) (jlt_asym (ha.1 y h2))
   subst e
   congr 1
   refine j_eq ha.2 hb.2 fun q => ?_
   constructor
   · intro hq
     rcases List.mem_cons.1 ((h q).1 (List.mem_cons_of_mem _ hq)) with e | h1
     · subst e; exact absurd (ha.1 q hq) jlt_irr
     · exact h1
   · intro hq
     rcases List.mem_cons.1 ((h q).2 (List.mem_cons_of_mem _ hq)) with e | h1
     · subst e; exact absurd (hb.1 q hq) jlt_irr
     · exact h1
theorem jrow_asc : (jrow T n a f).Pairwise jlt := by
 unfold jrow
 rw [List.pairwise_flatMap]
 refine ⟨fun d _ => ?_, ?_⟩
 · unfold j1; split <;> simp
 · refine (List.pairwise_lt_range).imp ?_
   intro d e h x hx y hy
   unfold j1 at hx hy
   split at hx
   · cases hx
   · split at hy
     · cases hy
     · obtain rfl := List.mem_singleton.1 hx
       obtain rfl := List.mem_singleton.1 hy
       exact .inr ⟨rfl, by show (d : Int) < e; omega⟩
theorem jnode_asc : (jnode T n f m).Pairwise jlt := by
 unfold jnode
 rw [List.pairwise_flatMap]
 refine ⟨fun a _ => jrow_asc, ?_⟩
 refine (List.pairwise_lt_range).imp ?_
 intro a b h x hx y hy
 unfold jrow at hx hy
 rw [List.mem_flatMap] at hx hy
 obtain ⟨d, -, hx⟩ := hx
 obtain ⟨e, -, hy⟩ := hy
 unfold j1 at hx hy
 split at hx
 · cases hx
 · split at hy
   · cases hy
   · obtain rfl := List.mem_singleton.1 hx
     obtain rfl := List.mem_singleton.1 hy
     exact .inl (by show (a : Int) < b; omega)
def jcmp (x y : Jp) : Int := orL [cmpI x.i y.i, cmpI x.o y.o]
def jl (x y : Jp) : Bool := decide (jcmp x y < 0)
theorem jcmp_lt (x y : Jp) : jl x y = true ↔ jlt x y := by
 have h := If.ordR_ge ⟨x.i, x.o⟩ ⟨y.i, y.o⟩
 unfold jl jcmp
 have h2 : decide (orL [cmpI x.i y.i, cmpI x.o y.o] < 0) = If.lessR ⟨x.i, x.o⟩ ⟨y.i, y.o⟩ := by
   have h3 : decide (orL [cmpI x.i y.i, cmpI x.o y.o] < 0) = !decide (0 ≤ orL [cmpI x.i y.i, cmpI x.o y.o]) := by
     by_cases h9 : 0 ≤ orL [cmpI x.i y.i, cmpI x.o y.o]
     · rw [decide_eq_true h9, decide_eq_false (by omega)]; rfl
     · rw [decide_eq_false h9, decide_eq_true (by omega)]; rfl
   have h4 : decide (0 ≤ orL [cmpI x.i y.i, cmpI x.o y.o]) = !If.lessR ⟨x.i, x.o⟩ ⟨y.i, y.o⟩ := h
   rw [h3, h4, Bool.not_not]
 rw [h2]
 unfold If.lessR jlt
 by_cases e : x.i = y.i
 · simp [e]
 · simp [e]
theorem jcmp_swo : Go.Sort.SWO (jl) := by
 have hf : ∀ x y, jl x y = false ↔ ¬ jlt x y := fun x y => by rw [← jcmp_lt]; simp
 refine ⟨fun x => (hf x x).2 jlt_irr, fun x y z h1 h2 => ?_, fun x y z h1 h2 => ?_⟩
 · rw [jcmp_lt] at h1 h2 ⊢
   unfold jlt at *
   omega
 · rw [hf] at h1 h2 ⊢
   unfold jlt at *
   omega
theorem sort_jnode {c : List Jp} {d' : Array Jp} (hd : c.Pairwise fun x y => ¬ (x.i = y.i ∧ x.o = y.o)) (hm : ∀ j, j ∈ c ↔ j ∈ jnode T n f f) (hp : Go.Sort.PermIn 0 c.toArray.size c.toArray d') (hs : Go.Sort.SortedIn (jl) 0 c.toArray.size d') : d'.toList = jnode T n f f := by
 obtain ⟨h1, -, h3⟩ := hp
 have e1 : (d'.extract 0 c.toArray.size) = d' := by rw [← h1]; simp
 have e2 : (c.toArray.extract 0 c.toArray.size) = c.toArray := by simp
 rw [e1, e2] at h3
 have hpm : d'.toList.Perm c := by simpa using h3
 have hd2 : d'.toList.Pairwise fun x y => ¬ (x.i = y.i ∧ x.o = y.o) := (hpm.pairwise_iff (fun h hh => h ⟨hh.1.symm, hh.2.symm⟩)).2 hd
 refine j_eq ?_ jnode_asc (fun q => (hpm.mem_iff).trans (hm q))
 rw [List.pairwise_iff_getElem] at hd2 ⊢
 intro i j hi hj hij
 have h4 := hd2 i j hi hj hij
 have h5 := hs i j (Nat.zero_le _) hij (by rw [← h1]; simpa using hj)
 have h6 : ¬ jlt d'.toList[j] d'.toList[i] := by
   rw [← jcmp_lt]
   have g1 : d'[i]! = d'.toList[i] := by simp [show i < d'.size by simpa using hi]
   have g2 : d'[j]! = d'.toList[j] := by simp [show j < d'.size by simpa using hj]
   rw [← g1, ← g2, h5]
   simp
 unfold jlt at *
 omega
end
theorem table_eq {p : Vb} {T T' : Nat → Nat → Nat → D} (c1 : Clo p T) (s1 : Snd p T) (c2 : Clo p T') (s2 : Snd p T') : T = T' :=
 funext fun n => funext fun a => funext fun d => le_antisymm (s2 T c1 n a d) (s1 T' c2 n a d)
end Iv
end Go.Df
