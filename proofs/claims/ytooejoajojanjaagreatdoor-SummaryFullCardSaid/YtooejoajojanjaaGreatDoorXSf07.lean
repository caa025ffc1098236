/- Texts: Ic Jdz Pd. -/
import Derived.Test.YtooejoajojanjaaGreatDoorXSf06
import Derived.Test.YtooejoajojanjaaGreatDoorXSf04
import Derived.Test.YtooejoajojanjaaGreatDoorXSf01
namespace Go.Df
open Go.RowKit
namespace If
open Sp
structure St where
 h : Nat → Nat → Nat → Bool
 e : Nat → Nat → Nat → Bool
 pd : Nat → List (Nat × Nat)
 q : List Nat
def St.add (s : St) (n a d : Nat) : St :=
 if s.h n a d = true then s else
   ⟨fun n' a' d' => s.h n' a' d' || (n' == n && (a' == a && d' == d)), s.e, fun n' => if n' = n then s.pd n ++ [(a, d)] else s.pd n', if s.pd n = [] then s.q ++ [n] else s.q⟩
def St.ent (s : St) (k b a : Nat) : St := ⟨s.h, fun k' b' a' => s.e k' b' a' || (k' == k && (b' == b && a' == a)), s.pd, s.q⟩
def froms (l : List Pr) (d : Nat) : List Pr := l.filter fun q => q.i == (d : Int)
def elems (F : Nat) (f : Nat → Bool) : List Nat := (List.range F).filter f
def outL (p : Pb) (n : Nat) : List Nat := (List.range p.es.length).filter fun k => (ge p.es k).a == (n : Int)
def callL (p : Pb) (n : Nat) : List Nat := (List.range p.es.length).filter fun k => (ge p.es k).k == 2 && (ge p.es k).b == (n : Int)
def retL (p : Pb) (n : Nat) : List Nat := (List.range p.es.length).filter fun k => ((ge p.es k).k == 3 || (ge p.es k).k == 4) && (ge p.es k).c == (n : Int)
def seedL (p : Pb) (n : Nat) : List Sd := p.sd.filter fun s => s.n == (n : Int)
def spread (p : Pb) (k a d : Nat) (s : St) : St := (froms (gf p.fl k) d).foldl (fun s q => s.add (ge p.es k).b.toNat a q.o.toNat) s
def enterR (p : Pb) (k a b : Nat) (s : St) (r : Nat) : St :=
 if stOf p.ns (ge p.es r).a.toNat = (ge p.es k).b.toNat then (elems p.F.toNat (s.h (ge p.es r).a.toNat b)).foldl (fun s f => spread p r a f s) s else s
def enter1 (p : Pb) (k a b : Nat) (s : St) : St :=
 if (s.add (ge p.es k).b.toNat b b).e k b a = true then s.add (ge p.es k).b.toNat b b else (retL p (ge p.es k).a.toNat).foldl (enterR p k a b) ((s.add (ge p.es k).b.toNat b b).ent k b a)
def enter (p : Pb) (k a d : Nat) (s : St) : St := (froms (gf p.fl k) d).foldl (fun s q => enter1 p k a q.o.toNat s) s
def leaveR (p : Pb) (n d : Nat) (cs : List Nat) (s : St) (r : Nat) : St := if (ge p.es r).a.toNat = n then cs.foldl (fun s a => spread p r a d s) s else s
def leave1 (p : Pb) (n b d : Nat) (s : St) (k : Nat) : St := (retL p (ge p.es k).a.toNat).foldl (leaveR p n d (elems p.F.toNat (s.e k b))) s
def leave (p : Pb) (n b d : Nat) (s : St) : St := (callL p (stOf p.ns n)).foldl (leave1 p n b d) s
def stepE (p : Pb) (a d : Nat) (s : St) (k : Nat) : St := if (ge p.es k).k = 1 ∨ (ge p.es k).k = 5 then spread p k a d s else if (ge p.es k).k = 2 then enter p k a d s else s
def stepA (p : Pb) (n a d : Nat) (s : St) : St := if a = 0 ∧ d = 0 then (seedL p n).foldl (fun s x => s.add n 0 x.f.toNat) s else s
def step (p : Pb) (n a d : Nat) (s : St) : St :=
 if (gn p.ns n).k = 3 ∨ (gn p.ns n).k = 4 then leave p n a d ((outL p n).foldl (stepE p a d) (stepA p n a d s)) else (outL p n).foldl (stepE p a d) (stepA p n a d s)
structure Le (s t : St) : Prop where
 h : ∀ n a d, s.h n a d = true → t.h n a d = true
 e : ∀ k b a, s.e k b a = true → t.e k b a = true
 pd : ∀ n x, x ∈ s.pd n → x ∈ t.pd n
 new : ∀ n a d, t.h n a d = true → s.h n a d = true ∨ (a, d) ∈ t.pd n
 old : ∀ n x, x ∈ t.pd n → x ∈ s.pd n ∨ s.h n x.1 x.2 = false
theorem Le.refl (s : St) : Le s s := ⟨fun _ _ _ h => h, fun _ _ _ h => h, fun _ _ h => h, fun _ _ _ h => .inl h, fun _ _ h => .inl h⟩
theorem Le.trans {s t u : St} (h : Le s t) (g : Le t u) : Le s u := by
 refine ⟨fun n a d x => g.h _ _ _ (h.h _ _ _ x), fun n a d x => g.e _ _ _ (h.e _ _ _ x), fun n x y => g.pd _ _ (h.pd _ _ y), fun n a d x => ?_, fun n x y => ?_⟩
 · rcases g.new _ _ _ x with y | y
   · rcases h.new _ _ _ y with z | z
     · exact .inl z
     · exact .inr (g.pd _ _ z)
   · exact .inr y
 · rcases g.old _ _ y with z | z
   · exact h.old _ _ z
   · refine .inr ?_
     cases hh : s.h n x.1 x.2 with
     | false => rfl
     | true => rw [h.h _ _ _ hh] at z; cases z
theorem St.add_le (s : St) (n a d : Nat) : Le s (s.add n a d) := by
 unfold St.add
 split
 · exact Le.refl s
 · rename_i h0
   refine ⟨fun n' a' d' h => by simp [h], fun _ _ _ h => h, fun n' x h => ?_, fun n' a' d' h => ?_, fun n' x h => ?_⟩
   · dsimp only
     split
     · rename_i e; subst e; simp [h]
     · exact h
   · simp at h
     rcases h with h | ⟨rfl, rfl, rfl⟩
     · exact .inl h
     · right; simp
   · dsimp only at h
     split at h
     · rename_i e
       subst e
       simp at h
       rcases h with h | rfl
       · exact .inl h
       · right; simpa using h0
     · exact .inl h
theorem St.add_has (s : St) (n a d : Nat) : (s.add n a d).h n a d = true := by
 unfold St.add
 split
 · assumption
 · simp
theorem St.ent_le (s : St) (k b a : Nat) : Le s (s.ent k b a) := ⟨fun _ _ _ h => h, fun k' b' a' h => by simp [St.ent, h], fun _ _ h => h, fun _ _ _ h => .inl h, fun _ _ h => .inl h⟩
theorem fold_le {α : Type} {f : St → α → St} (hf : ∀ s x, Le s (f s x)) : ∀ (l : List α) (s : St), Le s (l.foldl f s)
 | [], s => Le.refl s
 | x :: l, s => (hf s x).trans (fold_le hf l (f s x))
theorem fold_has {α : Type} {f : St → α → St} (hf : ∀ s x, Le s (f s x)) {Q : St → Prop} (hQ : ∀ s t, Le s t → Q s → Q t) {x : α} : ∀ (l : List α) (s : St), x ∈ l → (∀ t, Le s t → Q (f t x)) → Q (l.foldl f s)
 | y :: l, s, hx, h => by
   rcases List.mem_cons.1 hx with rfl | hx
   · exact hQ _ _ (fold_le hf l _) (h s (Le.refl s))
   · exact fold_has hf hQ l _ hx (fun t ht => h t ((hf s y).trans ht))
theorem spread_le (p : Pb) (k a d : Nat) (s : St) : Le s (spread p k a d s) := fold_le (fun s _q => s.add_le _ _ _) _ s
theorem enterR_le (p : Pb) (k a b : Nat) (s : St) (r : Nat) : Le s (enterR p k a b s r) := by
 unfold enterR
 split
 · exact fold_le (fun s f => spread_le p r a f s) _ s
 · exact Le.refl s
theorem enter1_le (p : Pb) (k a b : Nat) (s : St) : Le s (enter1 p k a b s) := by
 unfold enter1
 split
 · exact s.add_le _ _ _
 · exact ((s.add_le _ _ _).trans (St.ent_le _ _ _ _)).trans (fold_le (enterR_le p k a b) _ _)
theorem enter_le (p : Pb) (k a d : Nat) (s : St) : Le s (enter p k a d s) := fold_le (fun s _q => enter1_le p k a _ s) _ s
theorem leaveR_le (p : Pb) (n d : Nat) (cs : List Nat) (s : St) (r : Nat) : Le s (leaveR p n d cs s r) := by
 unfold leaveR
 split
 · exact fold_le (fun s a => spread_le p r a d s) _ s
 · exact Le.refl s
theorem leave1_le (p : Pb) (n b d : Nat) (s : St) (k : Nat) : Le s (leave1 p n b d s k) := fold_le (leaveR_le p n d _) _ s
theorem leave_le (p : Pb) (n b d : Nat) (s : St) : Le s (leave p n b d s) := fold_le (leave1_le p n b d) _ s
theorem stepE_le (p : Pb) (a d : Nat) (s : St) (k : Nat) : Le s (stepE p a d s k) := by
 unfold stepE
 split
 · exact spread_le p k a d s
 · split
   · exact enter_le p k a d s
   · exact Le.refl s
theorem stepA_le (p : Pb) (n a d : Nat) (s : St) : Le s (stepA p n a d s) := by
 unfold stepA
 split
 · exact fold_le (fun s x => s.add_le _ _ _) _ s
 · exact Le.refl s
theorem step_le (p : Pb) (n a d : Nat) (s : St) : Le s (step p n a d s) := by
 have h := (stepA_le p n a d s).trans (fold_le (stepE_le p a d) (outL p n) _)
 unfold step
 split
 · exact h.trans (leave_le p n a d _)
 · exact h
theorem mem_froms {l : List Pr} {d : Nat} {q : Pr} : q ∈ froms l d ↔ q ∈ l ∧ q.i = d := by simp [froms]
theorem spread_has {p : Pb} {k a d : Nat} {q : Pr} (hq : q ∈ gf p.fl k) (hd : q.i = d) (s : St) : (spread p k a d s).h (ge p.es k).b.toNat a q.o.toNat = true :=
 fold_has (fun s _q => s.add_le _ _ _) (Q := fun t => t.h (ge p.es k).b.toNat a q.o.toNat = true) (fun _ _ h hq => h.h _ _ _ hq) _ s (mem_froms.2 ⟨hq, hd⟩) (fun t _ => St.add_has t _ _ _)
structure Snd (p : Pb) (s : St) : Prop where
 h : ∀ n a d, s.h n a d = true → PE p a n d
 e : ∀ k b a, s.e k b a = true → k < p.es.length ∧ (ge p.es k).k = 2 ∧ ∃ q ∈ gf p.fl k, q.o.toNat = b ∧ PE p a (ge p.es k).a.toNat q.i.toNat
theorem Snd.add {p : Pb} {s : St} (h : Snd p s) {n a d : Nat} (hp : PE p a n d) : Snd p (s.add n a d) := by
 unfold St.add
 split
 · exact h
 · refine ⟨fun n' a' d' h' => ?_, h.e⟩
   simp at h'
   rcases h' with h' | ⟨rfl, rfl, rfl⟩
   · exact h.h _ _ _ h'
   · exact hp
theorem fold_snd {p : Pb} {α : Type} {f : St → α → St} : ∀ (l : List α) (s : St), (∀ x ∈ l, ∀ t, Snd p t → Snd p (f t x)) → Snd p s → Snd p (l.foldl f s)
 | [], _, _, h => h
 | x :: l, s, hf, h => fold_snd l _ (fun y hy => hf y (by simp [hy])) (hf x (by simp) s h)
theorem outL_mem {p : Pb} {n k : Nat} : k ∈ outL p n ↔ k < p.es.length ∧ (ge p.es k).a = n := by simp [outL]
theorem callL_mem {p : Pb} {n k : Nat} : k ∈ callL p n ↔ k < p.es.length ∧ (ge p.es k).k = 2 ∧ (ge p.es k).b = n := by simp [callL]
theorem retL_mem {p : Pb} {n k : Nat} : k ∈ retL p n ↔ k < p.es.length ∧ ((ge p.es k).k = 3 ∨ (ge p.es k).k = 4) ∧ (ge p.es k).c = n := by simp [retL]
theorem seedL_mem {p : Pb} {n : Nat} {s : Sd} : s ∈ seedL p n ↔ s ∈ p.sd ∧ s.n = n := by simp [seedL]
theorem elems_mem {F : Nat} {f : Nat → Bool} {x : Nat} : x ∈ elems F f ↔ x < F ∧ f x = true := by simp [elems]
theorem spread_flow {p : Pb} (_ho : Ok p) {k a d : Nat} (hk : k < p.es.length) (h1 : (ge p.es k).k = 1 ∨ (ge p.es k).k = 5) (hp : PE p a (ge p.es k).a.toNat d) {s : St} (h : Snd p s) : Snd p (spread p k a d s) := by
 refine fold_snd _ s (fun q hq t ht => ht.add ?_) h
 obtain ⟨h2, h3⟩ := mem_froms.1 hq
 exact .flow hk h1 h2 (by rw [h3, Int.toNat_natCast]; exact hp)
theorem spread_ret {p : Pb} (ho : Ok p) {k r a b d : Nat} (hr : r < p.es.length) (hr2 : (ge p.es r).k = 3 ∨ (ge p.es r).k = 4) (he : k < p.es.length ∧ (ge p.es k).k = 2 ∧ ∃ q ∈ gf p.fl k, q.o.toNat = b ∧ PE p a (ge p.es k).a.toNat q.i.toNat)
   (hc : (ge p.es r).c = (ge p.es k).a) (hf : stOf p.ns (ge p.es r).a.toNat = (ge p.es k).b.toNat) (hp : PE p b (ge p.es r).a.toNat d) {s : St} (h : Snd p s) : Snd p (spread p r a d s) := by
 obtain ⟨hk, hk2, q0, hq0, hb, hp0⟩ := he
 have h1 := ho.edge hr
 have h2 := ho.edge hk
 have h3 := (ho.nd.start_iff (x := (ge p.es r).a.toNat) (s := (ge p.es k).b.toNat) (by omega) (by omega) (ho.call hk hk2).1).1 hf
 refine fold_snd _ s (fun q hq t ht => ht.add ?_) h
 obtain ⟨h4, h5⟩ := mem_froms.1 hq
 exact .ret hk hk2 hq0 hr hr2 h4 hc.symm h3 hp0 (by rw [h5, Int.toNat_natCast, hb]; exact hp)
theorem enter_snd {p : Pb} (ho : Ok p) {k a d : Nat} (hk : k < p.es.length) (hk2 : (ge p.es k).k = 2) (hp : PE p a (ge p.es k).a.toNat d) {s : St} (h : Snd p s) : Snd p (enter p k a d s) := by
 refine fold_snd _ s (fun q hq t ht => ?_) h
 obtain ⟨h2, h3⟩ := mem_froms.1 hq
 have hp' : PE p a (ge p.es k).a.toNat q.i.toNat := by rw [h3, Int.toNat_natCast]; exact hp
 have h4 := ht.add (PE.call hk hk2 h2 hp')
 unfold enter1
 split
 · exact h4
 · have he : k < p.es.length ∧ (ge p.es k).k = 2 ∧ ∃ q' ∈ gf p.fl k, q'.o.toNat = q.o.toNat ∧ PE p a (ge p.es k).a.toNat q'.i.toNat := ⟨hk, hk2, q, h2, rfl, hp'⟩
   refine fold_snd _ _ (fun r hr t ht => ?_) ⟨h4.h, fun k' b' a' h' => ?_⟩
   · obtain ⟨r1, r2, r3⟩ := retL_mem.1 hr
     unfold enterR
     split
     · rename_i hst
       refine fold_snd _ _ (fun f hf u hu => ?_) ht
       refine spread_ret ho r1 r2 he ?_ hst (ht.h _ _ _ (elems_mem.1 hf).2) hu
       have := ho.edge hk
       omega
     · exact ht
   · simp [St.ent] at h'
     rcases h' with h' | ⟨rfl, rfl, rfl⟩
     · exact h4.e _ _ _ h'
     · exact he
theorem leave_snd {p : Pb} (ho : Ok p) {n b d : Nat} (_hn : n < p.ns.length) (hp : PE p b n d) {s : St} (h : Snd p s) : Snd p (leave p n b d s) := by
 refine fold_snd _ s (fun k hk t ht => ?_) h
 obtain ⟨k1, k2, k3⟩ := callL_mem.1 hk
 refine fold_snd _ t (fun r hr u hu => ?_) ht
 obtain ⟨r1, r2, r3⟩ := retL_mem.1 hr
 unfold leaveR
 split
 · rename_i hrn
   refine fold_snd _ u (fun a ha v hv => ?_) hu
   have := ho.edge k1
   refine spread_ret ho r1 r2 (ht.e _ _ _ (elems_mem.1 ha).2) (by omega) (by rw [hrn]; omega) (by rw [hrn]; exact hp) hv
 · exact hu
theorem step_snd {p : Pb} (ho : Ok p) {n a d : Nat} (hp : PE p a n d) {s : St} (h : Snd p s) : Snd p (step p n a d s) := by
 have hn := (hp.rng ho).1
 have h1 : Snd p (stepA p n a d s) := by
   unfold stepA
   split
   · rename_i h0
     obtain ⟨rfl, rfl⟩ := h0
     refine fold_snd _ s (fun x hx t ht => ht.add ?_) h
     obtain ⟨h2, h3⟩ := seedL_mem.1 hx
     have e : x.n.toNat = n := by omega
     have := PE.seed (p := p) (s := x) (by rw [e]; exact hp) h2
     rw [e] at this
     exact this
   · exact h
 have h2 : Snd p ((outL p n).foldl (stepE p a d) (stepA p n a d s)) := by
   refine fold_snd _ _ (fun k hk t ht => ?_) h1
   obtain ⟨k1, k2⟩ := outL_mem.1 hk
   have hp' : PE p a (ge p.es k).a.toNat d := by rw [k2, Int.toNat_natCast]; exact hp
   unfold stepE
   split
   · rename_i h3; exact spread_flow ho k1 h3 hp' ht
   · split
     · rename_i h3; exact enter_snd ho k1 h3 hp' ht
     · exact ht
 unfold step
 split
 · exact leave_snd ho hn hp h2
 · exact h2
structure Cp (p : Pb) (s : St) (D : Nat → Nat → Nat → Prop) : Prop where
 seed : ∀ n, D n 0 0 → ∀ x ∈ p.sd, x.n = n → s.h n 0 x.f.toNat = true
 flow : ∀ n a d, D n a d → ∀ k, k < p.es.length → ((ge p.es k).k = 1 ∨ (ge p.es k).k = 5) → (ge p.es k).a = n → ∀ q ∈ gf p.fl k, q.i = d → s.h (ge p.es k).b.toNat a q.o.toNat = true
 call : ∀ n a d, D n a d → ∀ k, k < p.es.length → (ge p.es k).k = 2 → (ge p.es k).a = n → ∀ q ∈ gf p.fl k, q.i = d → s.h (ge p.es k).b.toNat q.o.toNat q.o.toNat = true ∧ s.e k q.o.toNat a = true
 ret : ∀ k b a, s.e k b a = true → ∀ r, r < p.es.length → ((ge p.es r).k = 3 ∨ (ge p.es r).k = 4) → (ge p.es r).c = (ge p.es k).a → stOf p.ns (ge p.es r).a.toNat = (ge p.es k).b.toNat → ∀ d, D (ge p.es r).a.toNat b d → ∀ q ∈ gf p.fl r, q.i = d → s.h (ge p.es r).b.toNat a q.o.toNat = true
def Dn (s : St) (n : Nat) (rest : List (Nat × Nat)) (n' a d : Nat) : Prop := s.h n' a d = true ∧ (a, d) ∉ s.pd n' ∧ ¬ (n' = n ∧ (a, d) ∈ rest)
def CpR (p : Pb) (s : St) (D : Nat → Nat → Nat → Prop) : Prop := ∀ k b a, s.e k b a = true → ∀ r, r < p.es.length → ((ge p.es r).k = 3 ∨ (ge p.es r).k = 4) → (ge p.es r).c = (ge p.es k).a → stOf p.ns (ge p.es r).a.toNat = (ge p.es k).b.toNat → ∀ d, D (ge p.es r).a.toNat b d → ∀ q ∈ gf p.fl r, q.i = d → s.h (ge p.es r).b.toNat a q.o.toNat = true
theorem CpR.mono {p : Pb} {s t : St} {D : Nat → Nat → Nat → Prop} (h : CpR p s D) (hl : Le s t) (he : t.e = s.e) : CpR p t D := fun k b a hk r r1 r2 r3 r4 d hd q hq hi => hl.h _ _ _ (h k b a (by rw [← he]; exact hk) r r1 r2 r3 r4 d hd q hq hi)
theorem fold_e {α : Type} {f : St → α → St} (hf : ∀ s x, (f s x).e = s.e) : ∀ (l : List α) (s : St), (l.foldl f s).e = s.e
 | [], _ => rfl
 | x :: l, s => (fold_e hf l _).trans (hf s x)
theorem St.add_e (s : St) (n a d : Nat) : (s.add n a d).e = s.e := by unfold St.add; split <;> rfl
theorem spread_e (p : Pb) (k a d : Nat) (s : St) : (spread p k a d s).e = s.e := fold_e (fun s _q => s.add_e _ _ _) _ s
theorem enterR_e (p : Pb) (k a b : Nat) (s : St) (r : Nat) : (enterR p k a b s r).e = s.e := by
 unfold enterR
 split
 · exact fold_e (fun s f => spread_e p r a f s) _ s
 · rfl
theorem leave1_e (p : Pb) (n b d : Nat) (s : St) (k : Nat) : (leave1 p n b d s k).e = s.e := by
 refine fold_e (fun s r => ?_) _ s
 unfold leaveR
 split
 · exact fold_e (fun s a => spread_e p r a d s) _ s
 · rfl
theorem enter1_ret {p : Pb} {F : Nat} (hF : p.F.toNat = F) {k a b : Nat} {s : St} {D : Nat → Nat → Nat → Prop} (hk : k < p.es.length) (ho : Ok p) (hD : ∀ n a d, D n a d → s.h n a d = true ∧ d < F) (h : CpR p s D) : CpR p (enter1 p k a b s) D := by
 have hl := s.add_le (ge p.es k).b.toNat b b
 unfold enter1
 split
 · exact h.mono hl (St.add_e _ _ _ _)
 · have hl2 := hl.trans (St.ent_le (s.add (ge p.es k).b.toNat b b) k b a)
   have hl3 := hl2.trans (fold_le (enterR_le p k a b) (retL p (ge p.es k).a.toNat) _)
   intro k' b' a' he r r1 r2 r3 r4 d hd q hq hi
   rw [fold_e (enterR_e p k a b)] at he
   have he' : s.e k' b' a' = true ∨ (k' = k ∧ b' = b ∧ a' = a) := by
     simp [St.ent, St.add_e] at he
     exact he
   rcases he' with he' | ⟨rfl, rfl, rfl⟩
   · exact hl3.h _ _ _ (h k' b' a' he' r r1 r2 r3 r4 d hd q hq hi)
   · have h1 := ho.edge hk
     refine fold_has (enterR_le p k' a' b') (Q := fun t => t.h (ge p.es r).b.toNat a' q.o.toNat = true) (fun _ _ h hq => h.h _ _ _ hq) (x := r) _ _ (retL_mem.2 ⟨r1, r2, by omega⟩) (fun t ht => ?_)
     unfold enterR
     rw [if_pos r4]
     refine fold_has (fun s f => spread_le p r a' f s) (Q := fun t => t.h (ge p.es r).b.toNat a' q.o.toNat = true) (fun _ _ h hq => h.h _ _ _ hq) (x := d) _ _ (elems_mem.2 ⟨?_, ht.h _ _ _ (hl2.h _ _ _ (hD _ _ _ hd).1)⟩) (fun u _ => spread_has hq hi u)
     rw [hF]
     exact (hD _ _ _ hd).2
theorem fold_keep {α : Type} {f : St → α → St} {Q : St → Prop} : ∀ (l : List α) (s : St), (∀ x ∈ l, ∀ t, Q t → Q (f t x)) → Q s → Q (l.foldl f s)
 | [], _, _, h => h
 | x :: l, s, hf, h => fold_keep l _ (fun y hy => hf y (by simp [hy])) (hf x (by simp) s h)
theorem step_ent {p : Pb} {n a d : Nat} (haF : (a : Int) < p.F) {s s1 s2 : St} (hS : ∀ k b a, s.e k b a = true → a < p.F.toNat ∧ k < p.es.length ∧ (ge p.es k).k = 2) (e1 : stepA p n a d s = s1) (e2 : (outL p n).foldl (stepE p a d) s1 = s2) :
   ∀ k b a, s2.e k b a = true → a < p.F.toNat ∧ k < p.es.length ∧ (ge p.es k).k = 2 := by
 have s1e : s1.e = s.e := by
   rw [← e1]
   unfold stepA
   split
   · exact fold_e (fun s x => s.add_e _ _ _) _ s
   · rfl
 rw [← e2]
 refine fold_keep (Q := fun t => ∀ k b a, t.e k b a = true → a < p.F.toNat ∧ k < p.es.length ∧ (ge p.es k).k = 2) _ s1 (fun k' hk' t ht => ?_) (by rw [s1e]; exact hS)
 unfold stepE
 split
 · rw [spread_e]; exact ht
 · split
   · rename_i hk2'
     refine fold_keep (Q := fun t => ∀ k b a, t.e k b a = true → a < p.F.toNat ∧ k < p.es.length ∧ (ge p.es k).k = 2) _ t (fun q' _ u hu => ?_) ht
     unfold enter1
     split
     · rw [St.add_e]; exact hu
     · rw [fold_e (enterR_e p k' a _)]
       intro k'' b'' a'' h''
       simp [St.ent, St.add_e] at h''
       rcases h'' with h'' | ⟨rfl, -, rfl⟩
       · exact hu _ _ _ h''
       · exact ⟨by omega, (outL_mem.1 hk').1, hk2'⟩
   · exact ht
theorem step_cp {p : Pb} (ho : Ok p) {n a d : Nat} (hn : n < p.ns.length) (hdF : (d : Int) < p.F) (haF : (a : Int) < p.F) {s : St} {D : Nat → Nat → Nat → Prop} (hD : ∀ n a d, D n a d → s.h n a d = true ∧ d < p.F.toNat) (hS : ∀ k b a, s.e k b a = true → a < p.F.toNat ∧ k < p.es.length ∧ (ge p.es k).k = 2) (h : Cp p s D) (D' : Nat → Nat → Nat → Prop) (hD' : ∀ x y z, D' x y z → D x y z ∨ (x = n ∧ y = a ∧ z = d)) :
   Cp p (step p n a d s) D' := by
 obtain ⟨s1, e1⟩ : ∃ s1, stepA p n a d s = s1 := ⟨_, rfl⟩
 obtain ⟨s2, e2⟩ : ∃ s2, (outL p n).foldl (stepE p a d) s1 = s2 := ⟨_, rfl⟩
 obtain ⟨s3, e3⟩ : ∃ s3, step p n a d s = s3 := ⟨_, rfl⟩
 have l1 : Le s s1 := by rw [← e1]; exact stepA_le p n a d s
 have l2 : Le s1 s2 := by rw [← e2]; exact fold_le (stepE_le p a d) _ _
 have l3 : Le s2 s3 := by
   rw [← e3, ← e2, ← e1]
   unfold step
   split
   · exact leave_le p n a d _
   · exact Le.refl _
 rw [e3]
 have l13 := l1.trans (l2.trans l3)
 have r2 : CpR p s2 D := by
   have r1 : CpR p s1 D := by
     refine CpR.mono h.ret l1 ?_
     rw [← e1]
     unfold stepA
     split
     · exact fold_e (fun s x => s.add_e _ _ _) _ s
     · rfl
   have hd1 : ∀ n a d, D n a d → s1.h n a d = true ∧ d < p.F.toNat := fun n a d hd => ⟨l1.h _ _ _ (hD _ _ _ hd).1, (hD _ _ _ hd).2⟩
   rw [← e2]
   refine (fold_keep (Q := fun t => Le s1 t ∧ CpR p t D) _ s1 (fun k hk t ht => ?_) ⟨Le.refl _, r1⟩).2
   obtain ⟨k1, k2⟩ := outL_mem.1 hk
   refine ⟨ht.1.trans (stepE_le p a d t k), ?_⟩
   unfold stepE
   split
   · exact ht.2.mono (spread_le p k a d t) (spread_e p k a d t)
   · split
     · refine (fold_keep (Q := fun t => Le s1 t ∧ CpR p t D) _ t (fun q _ u hu => ?_) ht).2
       exact ⟨hu.1.trans (enter1_le p k a _ u), enter1_ret rfl k1 ho (fun n a d hd => ⟨hu.1.h _ _ _ (hd1 _ _ _ hd).1, (hd1 _ _ _ hd).2⟩) hu.2⟩
     · exact ht.2
 have e23 : s3.e = s2.e := by
   rw [← e3, ← e2, ← e1]
   unfold step
   split
   · exact fold_e (leave1_e p n a d) _ _
   · rfl
 refine ⟨fun m hm x hx hxm => ?_, fun m b c hm k k1 k2 k3 q hq hi => ?_, fun m b c hm k k1 k2 k3 q hq hi => ?_, fun k b c hk r r1 r2' r3 r4 f hf q hq hi => ?_⟩
 · rcases hD' _ _ _ hm with hm | ⟨rfl, rfl, rfl⟩
   · exact l13.h _ _ _ (h.seed m hm x hx hxm)
   · refine (l2.trans l3).h _ _ _ ?_
     rw [← e1]
     unfold stepA
     rw [if_pos ⟨rfl, rfl⟩]
     exact fold_has (fun s x => s.add_le _ _ _) (Q := fun t => t.h m 0 x.f.toNat = true) (fun _ _ h hq => h.h _ _ _ hq) (x := x) _ s (seedL_mem.2 ⟨hx, hxm⟩) (fun t _ => St.add_has t _ _ _)
 · rcases hD' _ _ _ hm with hm | ⟨rfl, rfl, rfl⟩
   · exact l13.h _ _ _ (h.flow m b c hm k k1 k2 k3 q hq hi)
   · refine l3.h _ _ _ ?_
     rw [← e2]
     refine fold_has (stepE_le p b c) (Q := fun t => t.h (ge p.es k).b.toNat b q.o.toNat = true) (fun _ _ h hq => h.h _ _ _ hq) (x := k) _ s1 (outL_mem.2 ⟨k1, k3⟩) (fun t _ => ?_)
     unfold stepE
     rw [if_pos k2]
     exact spread_has hq hi t
 · rcases hD' _ _ _ hm with hm | ⟨rfl, rfl, rfl⟩
   · exact ⟨l13.h _ _ _ (h.call m b c hm k k1 k2 k3 q hq hi).1, l13.e _ _ _ (h.call m b c hm k k1 k2 k3 q hq hi).2⟩
   · have : s2.h (ge p.es k).b.toNat q.o.toNat q.o.toNat = true ∧ s2.e k q.o.toNat b = true := by
       rw [← e2]
       refine fold_has (stepE_le p b c) (Q := fun t => t.h (ge p.es k).b.toNat q.o.toNat q.o.toNat = true ∧ t.e k q.o.toNat b = true) (fun _ _ h hq => ⟨h.h _ _ _ hq.1, h.e _ _ _ hq.2⟩) (x := k) _ s1 (outL_mem.2 ⟨k1, k3⟩) (fun t _ => ?_)
       unfold stepE
       rw [if_neg (by omega), if_pos k2]
       refine fold_has (fun s q => enter1_le p k b _ s) (Q := fun t => t.h (ge p.es k).b.toNat q.o.toNat q.o.toNat = true ∧ t.e k q.o.toNat b = true) (fun _ _ h hq => ⟨h.h _ _ _ hq.1, h.e _ _ _ hq.2⟩) (x := q) _ t (mem_froms.2 ⟨hq, hi⟩) (fun u _ => ?_)
       unfold enter1
       split
       · rename_i h9; exact ⟨St.add_has _ _ _ _, h9⟩
       · have l9 := fold_le (enterR_le p k b q.o.toNat) (retL p (ge p.es k).a.toNat) ((u.add (ge p.es k).b.toNat q.o.toNat q.o.toNat).ent k q.o.toNat b)
         exact ⟨l9.h _ _ _ (St.add_has _ _ _ _), l9.e _ _ _ (by simp [St.ent])⟩
     exact ⟨l3.h _ _ _ this.1, l3.e _ _ _ this.2⟩
 · rw [e23] at hk
   rcases hD' _ _ _ hf with hf | ⟨h5, h6, h7⟩
   · exact l3.h _ _ _ (r2 k b c hk r r1 r2' r3 r4 f hf q hq hi)
   · -- the edge itself: leave has passed it on
     subst h6 h7
     have hrk := ho.ret r1 r2'
     rw [h5] at hrk r4
     have hc : c < p.F.toNat ∧ k < p.es.length ∧ (ge p.es k).k = 2 := step_ent (s := s) haF hS e1 e2 _ _ _ hk
     have hke : k < p.es.length ∧ (ge p.es k).k = 2 ∧ 0 ≤ (ge p.es k).b ∧ 0 ≤ (ge p.es k).a := ⟨hc.2.1, hc.2.2, (ho.edge hc.2.1).2.2.1, (ho.edge hc.2.1).1⟩
     have hc := hc.1
     rw [← e3]
     unfold step
     rw [if_pos hrk, e1, e2]
     refine fold_has (leave1_le p n b f) (Q := fun t => t.h (ge p.es r).b.toNat c q.o.toNat = true) (fun _ _ h hq => h.h _ _ _ hq) (x := k) _ s2 (callL_mem.2 ⟨hke.1, hke.2.1, by omega⟩) (fun t ht => ?_)
     refine fold_has (leaveR_le p n f _) (Q := fun t => t.h (ge p.es r).b.toNat c q.o.toNat = true) (fun _ _ h hq => h.h _ _ _ hq) (x := r) _ t (retL_mem.2 ⟨r1, r2', by omega⟩) (fun u _ => ?_)
     unfold leaveR
     rw [if_pos h5]
     refine fold_has (fun s a => spread_le p r a f s) (Q := fun t => t.h (ge p.es r).b.toNat c q.o.toNat = true) (fun _ _ h hq => h.h _ _ _ hq) (x := c) _ u (elems_mem.2 ⟨hc, ?_⟩) (fun v _ => spread_has hq hi v)
     exact ht.e _ _ _ hk
end If
end Go.Df
namespace Go.Df
open Go.RowKit
namespace If
def Prs (w : World) (A : Option Addr) (n : Nat) (l : List Pr) : Prop :=
 l.length = n ∧ (0 < n → ∃ b o, A = some ⟨b, o, none⟩ ∧ b < w.heap.size ∧ ∀ i, i < n → w.cell? ⟨b, o + i * 2, none⟩ = some (.int .i64 (gp l i).i) ∧ w.cell? ⟨b, o + i * 2 + 1, none⟩ = some (.int .i64 (gp l i).o))
theorem Prs.later {w w' : World} {A : Option Addr} {n : Nat} {l : List Pr} (h : Prs w A n l) (hb : Below w.heap.size w w') : Prs w' A n l :=
 ⟨h.1, fun hn => by
   obtain ⟨b, o, e, hl, hc⟩ := h.2 hn
   exact ⟨b, o, e, Nat.lt_of_lt_of_le hl hb.size, fun i hi => ⟨(hb.cell (p := ⟨b, _, none⟩) hl).trans (hc i hi).1, (hb.cell (p := ⟨b, _, none⟩) hl).trans (hc i hi).2⟩⟩⟩
def Sds (w : World) (A : Option Addr) (n : Nat) (l : List Sd) : Prop :=
 l.length = n ∧ (0 < n → ∃ b o, A = some ⟨b, o, none⟩ ∧ b < w.heap.size ∧ ∀ i, i < n → w.cell? ⟨b, o + i * 2, none⟩ = some (.int .i64 (gd l i).n) ∧ w.cell? ⟨b, o + i * 2 + 1, none⟩ = some (.int .i64 (gd l i).f))
theorem Sds.later {w w' : World} {A : Option Addr} {n : Nat} {l : List Sd} (h : Sds w A n l) (hb : Below w.heap.size w w') : Sds w' A n l :=
 ⟨h.1, fun hn => by
   obtain ⟨b, o, e, hl, hc⟩ := h.2 hn
   exact ⟨b, o, e, Nat.lt_of_lt_of_le hl hb.size, fun i hi => ⟨(hb.cell (p := ⟨b, _, none⟩) hl).trans (hc i hi).1, (hb.cell (p := ⟨b, _, none⟩) hl).trans (hc i hi).2⟩⟩⟩
def Flw (w : World) (A : Option Addr) (n : Nat) (ls : List (List Pr)) : Prop :=
 ls.length = n ∧ (0 < n → ∃ b o, A = some ⟨b, o, none⟩ ∧ b < w.heap.size ∧ ∀ i, i < n → ∃ Ai ni ci, w.cell? ⟨b, o + i, none⟩ = some (.slice Ai ni ci) ∧ ni ≤ ci ∧ Prs w Ai ni (gf ls i))
theorem Flw.later {w w' : World} {A : Option Addr} {n : Nat} {ls : List (List Pr)} (h : Flw w A n ls) (hb : Below w.heap.size w w') : Flw w' A n ls :=
 ⟨h.1, fun hn => by
   obtain ⟨b, o, e, hl, hc⟩ := h.2 hn
   refine ⟨b, o, e, Nat.lt_of_lt_of_le hl hb.size, fun i hi => ?_⟩
   obtain ⟨Ai, ni, ci, h1, h2, h3⟩ := hc i hi
   exact ⟨Ai, ni, ci, (hb.cell (p := ⟨b, _, none⟩) hl).trans h1, h2, h3.later hb⟩⟩
theorem filter_all {l : List Pr} {d : Int} (h : ∀ q ∈ l, q.i = d) : l.filter (fun q => q.i == d) = l := List.filter_eq_self.2 fun q hq => by simpa using h q hq
theorem filter_no {l : List Pr} {d : Int} (h : ∀ q ∈ l, q.i ≠ d) : l.filter (fun q => q.i == d) = [] := List.filter_eq_nil_iff.2 fun q hq => by simpa using h q hq
theorem froms_mid {l : List Pr} {a m d : Nat} (h0 : a + m ≤ l.length) (h1 : ∀ j, j < a → (gp l j).i ≠ d) (h2 : ∀ j, a ≤ j → j < a + m → (gp l j).i = d) (h3 : ∀ j, a + m ≤ j → j < l.length → (gp l j).i ≠ d) : froms l d = (l.drop a).take m := by
 have e : l = l.take a ++ ((l.drop a).take m ++ (l.drop a).drop m) := by rw [List.take_append_drop, List.take_append_drop]
 unfold froms
 conv => lhs; rw [e]
 rw [List.filter_append, List.filter_append]
 rw [filter_no (l := l.take a), filter_all (l := (l.drop a).take m), filter_no (l := (l.drop a).drop m)]
 · simp
 · intro q hq
   rw [List.drop_drop] at hq
   obtain ⟨j, hj, rfl⟩ := List.getElem_of_mem hq
   rw [List.length_drop] at hj
   rw [List.getElem_drop, ← gp_lt (by omega)]
   exact h3 _ (by omega) (by omega)
 · intro q hq
   obtain ⟨j, hj, rfl⟩ := List.getElem_of_mem hq
   rw [List.length_take, List.length_drop] at hj
   rw [List.getElem_take, List.getElem_drop, ← gp_lt (by omega)]
   exact h2 _ (by omega) (by omega)
 · intro q hq
   obtain ⟨j, hj, rfl⟩ := List.getElem_of_mem hq
   rw [List.length_take] at hj
   rw [List.getElem_take, ← gp_lt (by omega)]
   exact h1 _ (by omega)
theorem Prs.mid {w : World} {b o n a m : Nat} {l : List Pr} (h : Prs w (some ⟨b, o, none⟩) n l) (h0 : a + m ≤ n) (hl : 0 < n) : Prs w (some ⟨b, o + a * 2, none⟩) m ((l.drop a).take m) := by
 obtain ⟨b', o', e, hlt, hc⟩ := h.2 hl
 injection e with e; injection e with e1 e2; subst e1 e2
 have hn := h.1
 refine ⟨by rw [List.length_take, List.length_drop]; omega, fun _ => ⟨b, o + a * 2, rfl, hlt, fun i hi => ?_⟩⟩
 have e : gp ((l.drop a).take m) i = gp l (a + i) := by
   rw [gp_lt (by rw [List.length_take, List.length_drop]; omega), gp_lt (by omega), List.getElem_take, List.getElem_drop]
 rw [e, show o + a * 2 + i * 2 = o + (a + i) * 2 by omega]
 exact hc (a + i) (by omega)
def GetPrs (w0 : World) (w : World) (l : List Pr) (e : Ending) (w' : World) : Prop := ∃ A n c, e = .returned (.slice A n c) ∧ Prs w0 A n l ∧ Below w.heap.size w w'
end If
namespace If
structure SmW (w : World) (A : Option Addr) (n : Nat) (L : List Su) : Prop where
 len : L.length = n
 mem : 0 < n → ∃ b o, A = some ⟨b, o, none⟩ ∧ b < w.heap.size ∧ ∀ i, i < n → ∃ E ne ce T nt ct, w.cell? ⟨b, o + i * 3, none⟩ = some (.int .i64 (gS L i).f) ∧ w.cell? ⟨b, o + i * 3 + 1, none⟩ = some (.slice E ne ce) ∧ w.cell? ⟨b, o + i * 3 + 2, none⟩ = some (.slice T nt ct) ∧ Prs w E ne (gS L i).x ∧ Prs w T nt (gS L i).y
theorem SmW.later {w w' : World} {A : Option Addr} {n : Nat} {L : List Su} (h : SmW w A n L) (hb : Below w.heap.size w w') : SmW w' A n L :=
 ⟨h.len, fun hn => by
   obtain ⟨b, o, e, hl, hc⟩ := h.mem hn
   refine ⟨b, o, e, Nat.lt_of_lt_of_le hl hb.size, fun i hi => ?_⟩
   obtain ⟨E, ne, ce, T, nt, ct, h1, h2, h3, h4, h5⟩ := hc i hi
   exact ⟨E, ne, ce, T, nt, ct, (hb.cell (p := ⟨b, _, none⟩) hl).trans h1, (hb.cell (p := ⟨b, _, none⟩) hl).trans h2, (hb.cell (p := ⟨b, _, none⟩) hl).trans h3, h4.later hb, h5.later hb⟩⟩
end If
end Go.Df
namespace Go.Proofs.YtooejoajojanjaaGreatDoor
open Go.RowKit Go.Df Go.Df.If
attribute [local go_sem ↓] Go.wp_at_zero Go.wp_at_succ
theorem ints_twoP (w : World) (b : Nat) (x y : Int) (t : TypeId) (hb : b = w.heap.size) : Ints (w.alloc (.cells #[.int .i64 x, .int .i64 y] t)) (some ⟨b, 0, none⟩) 2 [x, y] := by
 subst hb
 refine ⟨rfl, fun _ => ⟨_, _, rfl, by simp, fun i hi => ?_⟩⟩
 rw [World.cell?_alloc_new, Nat.zero_add]
 match i, hi with
 | 0, _ => rfl
 | 1, _ => rfl
set_option maxRecDepth 100000 in
set_option maxHeartbeats 4000000 in
theorem checkPair_any (A : Option Addr) (n c : Nat) (F : Int) (l : List Pr) (j : Nat) (w : World) (hP : Prs w A n l) (hj : j < n) (hn : n ≤ 9223372036854775807) (e : Int) (he : prErr F l j = e) :
   Calls Tryz.prog 35 #[.slice A n c, .int .i64 (j : Nat), .int .i64 F] w fun e' w' => e' = .returned (.int .i64 e) ∧ Below w.heap.size w w' := by
 have HE := Lib.hid he
 obtain ⟨b, o, rfl, hl, hc⟩ := hP.2 (by omega)
 obtain ⟨h1, h2⟩ := hc j hj
 have HC := Lib.hid hc
 have LB := Lib.hid hl
 obtain ⟨xi, xo, en⟩ : ∃ xi xo, gp l j = ⟨xi, xo⟩ := ⟨_, _, rfl⟩
 rw [en] at h1 h2
 have HEr : Hid (e = if xi < 0 ∨ F ≤ xi ∨ xo < 0 ∨ F ≤ xo then 4 else if 0 < j ∧ lessR (gp l (j - 1)) ⟨xi, xo⟩ = false then 13 else 0) := by
   show _ = _
   rw [← HE.out]
   unfold prErr
   rw [en]
 have hj9 : (j : Int) < (n : Int) := by omega
 clear hc en he hP
 go_enter Tryz.func35, Tryz.ntmps35
 go_upto_region 2 with fail
 refine wp_named (fun V => ∃ g, w.heap.size = g ∧ Blk V g [.int .i64 xi, .int .i64 xo] ∧ Kept [] w V) ⟨_, rfl, Blk.new _ _ _ _ rfl, (Kept.refl _ _).alloc _⟩ ?_
 rintro V ⟨g, eg, Bg, hkV⟩
 rw [eg]
 have ⟨LG, CG, FG⟩ := Bg
 have hBV := hkV.toBelow
 clear h1 h2 eg
 by_cases r0 : xi < 0
 · have z : decide (xi < 0) = true := by simpa using r0
   have hE : Hid (e = 4) := by show _ = _; rw [HEr.out, if_pos (by omega)]
   go_wp2_with fail
   go_ret
   exact ⟨ret_int hE.out.symm, hBV⟩
 have z0 : decide (xi < 0) = false := by simpa using r0
 by_cases r1 : F ≤ xi
 · have z : decide (F ≤ xi) = true := by simpa using r1
   have hE : Hid (e = 4) := by show _ = _; rw [HEr.out, if_pos (by omega)]
   go_wp2_with fail
   go_ret
   exact ⟨ret_int hE.out.symm, hBV⟩
 have z1 : decide (F ≤ xi) = false := by simpa using r1
 by_cases r2 : xo < 0
 · have z : decide (xo < 0) = true := by simpa using r2
   have hE : Hid (e = 4) := by show _ = _; rw [HEr.out, if_pos (by omega)]
   go_wp2_with fail
   go_ret
   exact ⟨ret_int hE.out.symm, hBV⟩
 have z2 : decide (xo < 0) = false := by simpa using r2
 by_cases r3 : F ≤ xo
 · have z : decide (F ≤ xo) = true := by simpa using r3
   have hE : Hid (e = 4) := by show _ = _; rw [HEr.out, if_pos (by omega)]
   go_wp2_with fail
   go_ret
   exact ⟨ret_int hE.out.symm, hBV⟩
 have z3 : decide (F ≤ xo) = false := by simpa using r3
 have HEy : Hid (e = if 0 < j ∧ lessR (gp l (j - 1)) ⟨xi, xo⟩ = false then 13 else 0) := by
   show _ = _
   rw [HEr.out, if_neg (by omega)]
 clear HEr r0 r1 r2 r3
 by_cases hj0 : j = 0
 · have y1 : decide (0 < j) = false := by simp; omega
   have y2 : decide ((0 : Int) < (j : Int)) = false := by simp; omega
   have hfin : Hid (e = 0) := by show _ = _; rw [HEy.out, if_neg (by omega)]
   clear hj0
   go_upto_region 4 with fail
   go_quiet (fail)
   go_wp2_with fail
   go_ret
   exact ⟨ret_int hfin.out.symm, (hkV.drewN _).toBelow⟩
 have y1 : decide (0 < j) = true := by simp; omega
 have y2 : decide ((0 : Int) < (j : Int)) = true := by simp; omega
 have y3 : IntKind.i64.wrap ((j : Int) - 1) = (j : Int) - 1 := IntWalk.i64_in _ (by omega)
 have y4 : (0 : Int) ≤ (j : Int) - 1 := by omega
 have y5 : ((j : Int) - 1).toNat = j - 1 := by omega
 have y6 : (j : Int) - 1 < (n : Int) := by omega
 have y7 : 0 < j := by omega
 have y8 : 1 ≤ j := by omega
 have y9 : (1 : Int) ≤ (j : Int) := by omega
 have y10 : j ≤ n := by omega
 have y11 : j < n + 1 := by omega
 have y12 : (j : Int) < (n : Int) + 1 := by omega
 have y13 : (j : Int) ≤ (n : Int) := by omega
 obtain ⟨p1, p2⟩ := HC.out (j - 1) (by omega)
 obtain ⟨pi, po, ep⟩ : ∃ pi po, gp l (j - 1) = ⟨pi, po⟩ := ⟨_, _, rfl⟩
 rw [ep] at p1 p2
 have q1 : V.cell? ⟨b, o + (j - 1) * 2, none⟩ = some (.int .i64 pi) := (hkV.cell b _ LB.out (by simp)).trans p1
 have q2 : V.cell? ⟨b, o + (j - 1) * 2 + 1, none⟩ = some (.int .i64 po) := (hkV.cell b _ LB.out (by simp)).trans p2
 have hbV : b < V.heap.size := Nat.lt_of_lt_of_le LB.out hkV.size
 have HEx : Hid (e = if lessR ⟨pi, po⟩ ⟨xi, xo⟩ = false then 13 else 0) := by
   show _ = _
   rw [HEy.out, ep]
   simp [y7]
 clear p1 p2 ep hj0
 go_upto_region 4 with fail
 go_cut [56] (fun s wx => s = .bool (!lessR ⟨pi, po⟩ ⟨xi, xo⟩) ∧ Kept [] V wx)
 case first =>
   go_region_held3 (fun w' => SX0 V w') (exact kp0)
     (first | (go_at_call 68; refine (compare_any _ _ _).mono ?_; rintro e w1 ⟨rfl, rfl⟩) | (go_at_call 67; refine (or_any _ _ _ [Sp.cmpI pi xi, Sp.cmpI po xo] _ (by first | exact ints_twoP _ _ _ _ _ (by first | rfl | simp) | exact Ints.drew (ints_twoP _ _ _ _ _ (by first | rfl | simp))) (by omega) (by omega)).mono ?_; rintro e w2 ⟨rfl, rfl⟩))
   all_goals
     go_wp2_with fail
     go_meet
     refine ⟨congrArg Value.bool (ordR_ge ⟨pi, po⟩ ⟨xi, xo⟩), ?_⟩
     (exact kpt0)
 case rest =>
   obtain ⟨rfl, hkc⟩ := hcut
   have hkwc : Kept [] w wc := keptTrans hkV hkc
   clear CG FG q1 q2
   by_cases hles : lessR ⟨pi, po⟩ ⟨xi, xo⟩ = true
   · rw [hles]
     have hfin : Hid (e = 0) := by show _ = _; rw [HEx.out, hles, if_neg (by simp)]
     clear hles
     go_wp2_with fail
     go_ret
     exact ⟨ret_int hfin.out.symm, hkwc.toBelow⟩
   · rw [Bool.not_eq_true] at hles
     rw [hles]
     have hfin : Hid (e = 13) := by show _ = _; rw [HEx.out, hles, if_pos rfl]
     clear hles
     go_wp2_with fail
     go_ret
     exact ⟨ret_int hfin.out.symm, hkwc.toBelow⟩
set_option maxRecDepth 100000 in
set_option maxHeartbeats 4000000 in
theorem checkFunc_any (A : Option Addr) (n c : Nat) (L : List Su) (i : Nat) (w : World) (hS : SmW w A n L) (hi : i < n) (hn : n ≤ 9223372036854775807) (e : Int) (he : fnErr L i = e) :
   Calls Tryz.prog 34 #[.slice A n c, .int .i64 (i : Nat)] w fun e' w' => e' = .returned (.int .i64 e) ∧ Below w.heap.size w w' := by
 have HE := Lib.hid he
 obtain ⟨b, o, rfl, hl, hc⟩ := hS.mem (by omega)
 obtain ⟨-, -, -, -, -, -, h1, -⟩ := hc i hi
 have HC := Lib.hid hc
 obtain ⟨x, en⟩ : ∃ x, (gS L i).f = x := ⟨_, rfl⟩
 rw [en] at h1
 have HEr : Hid (e = if x < 0 ∨ 256 ≤ x then 4 else if 0 < i ∧ x ≤ (gS L (i - 1)).f then 13 else 0) := by
   show _ = _
   rw [← HE.out]
   unfold fnErr
   rw [en]
 have hi9 : (i : Int) < (n : Int) := by omega
 clear hc en he hS
 go_enter Tryz.func34, Tryz.ntmps34
 by_cases r0 : x < 0
 · have z : decide (x < 0) = true := by simpa using r0
   have hE : Hid (e = 4) := by show _ = _; rw [HEr.out, if_pos (by omega)]
   go_wp2_with fail
   go_ret
   exact ⟨ret_int hE.out.symm, Below.refl _ _⟩
 have z0 : decide (x < 0) = false := by simpa using r0
 by_cases r1 : 256 ≤ x
 · have z : decide (256 ≤ x) = true := by simpa using r1
   have hE : Hid (e = 4) := by show _ = _; rw [HEr.out, if_pos (by omega)]
   go_wp2_with fail
   go_ret
   exact ⟨ret_int hE.out.symm, Below.refl _ _⟩
 have z1 : decide (256 ≤ x) = false := by simpa using r1
 have HEy : Hid (e = if 0 < i ∧ x ≤ (gS L (i - 1)).f then 13 else 0) := by
   show _ = _
   rw [HEr.out, if_neg (by omega)]
 clear HEr r0 r1
 by_cases hj0 : i = 0
 · have y1 : decide (0 < i) = false := by simp; omega
   have y2 : decide ((0 : Int) < (i : Int)) = false := by simp; omega
   have hfin : Hid (e = 0) := by show _ = _; rw [HEy.out, if_neg (by omega)]
   clear hj0
   go_upto_region 3 with fail
   go_quiet (fail)
   go_wp2_with fail
   go_ret
   exact ⟨ret_int hfin.out.symm, ((Kept.refl [] w).drewN _).toBelow⟩
 have y1 : decide (0 < i) = true := by simp; omega
 have y2 : decide ((0 : Int) < (i : Int)) = true := by simp; omega
 have y3 : IntKind.i64.wrap ((i : Int) - 1) = (i : Int) - 1 := IntWalk.i64_in _ (by omega)
 have y4 : (0 : Int) ≤ (i : Int) - 1 := by omega
 have y5 : ((i : Int) - 1).toNat = i - 1 := by omega
 have y6 : (i : Int) - 1 < (n : Int) := by omega
 have y7 : 0 < i := by omega
 have y8 : 1 ≤ i := by omega
 have y9 : (1 : Int) ≤ (i : Int) := by omega
 have y10 : i ≤ n := by omega
 have y11 : i < n + 1 := by omega
 have y12 : (i : Int) < (n : Int) + 1 := by omega
 have y13 : (i : Int) ≤ (n : Int) := by omega
 obtain ⟨-, -, -, -, -, -, p1, -⟩ := HC.out (i - 1) (by omega)
 obtain ⟨y, ep⟩ : ∃ y, (gS L (i - 1)).f = y := ⟨_, rfl⟩
 rw [ep] at p1
 have HEx : Hid (e = if x ≤ y then 13 else 0) := by
   show _ = _
   rw [HEy.out, ep]
   simp [y7]
 clear ep hj0 HEy
 by_cases hxy : x ≤ y
 · have g1 : decide (x ≤ y) = true := by simpa using hxy
   have hfin : Hid (e = 13) := by show _ = _; rw [HEx.out, if_pos hxy]
   go_upto_region 3 with fail
   go_quiet (fail)
   go_wp2_with fail
   go_ret
   exact ⟨ret_int hfin.out.symm, ((Kept.refl [] w).drewN _).toBelow⟩
 · have g1 : decide (x ≤ y) = false := by simpa using hxy
   have hfin : Hid (e = 0) := by show _ = _; rw [HEx.out, if_neg hxy]
   go_upto_region 3 with fail
   go_quiet (fail)
   go_wp2_with fail
   go_ret
   exact ⟨ret_int hfin.out.symm, ((Kept.refl [] w).drewN _).toBelow⟩
end Go.Proofs.YtooejoajojanjaaGreatDoor
