/- The program's search for the reached nodes, in plain words: it ends with them. No program in sight. -/
import Derived.Test.YtffkikhknabddaaUa
import Derived.Test.YtffkikhknabddaaZi
namespace Go.Df
open Go.RowKit
namespace Rc
open Sp If
/-- The reached nodes, the nodes to which calls return that are not reached, the nodes to be looked at. -/
structure Rs where
  r : Nat → Bool
  w : Nat → List Nat
  t : List Nat
def retE (es : List Ed) (k : Nat) : Bool := (ge es k).k == 3 || (ge es k).k == 4
def ad (s : Rs) (n : Nat) : Rs := if s.r n = true then s else ⟨fun x => s.r x || x == n, s.w, s.t ++ [n]⟩
def edg (es : List Ed) (s : Rs) (k : Nat) : Rs :=
  if retE es k = true ∧ s.r (ge es k).c.toNat = false then ⟨s.r, fun x => if x = (ge es k).c.toNat then s.w x ++ [(ge es k).b.toNat] else s.w x, s.t⟩ else ad s (ge es k).b.toNat
def outE (es : List Ed) (n : Nat) : List Nat := (List.range es.length).filter fun k => (ge es k).a == (n : Int)
def popd (s : Rs) : Rs := ⟨s.r, s.w, s.t.dropLast⟩
/-- Later states know more. -/
structure Lr (s u : Rs) : Prop where
  r : ∀ n, s.r n = true → u.r n = true
  w : ∀ n x, x ∈ s.w n → x ∈ u.w n
  t : ∀ n, u.r n = true → s.r n = true ∨ n ∈ u.t
  k : ∀ n, n ∈ s.t → n ∈ u.t
  h : ∀ n, s.r n = true → u.w n = s.w n
theorem Lr.refl (s : Rs) : Lr s s := ⟨fun _ h => h, fun _ _ h => h, fun _ h => .inl h, fun _ h => h, fun _ _ => rfl⟩
theorem Lr.trans {s t u : Rs} (h : Lr s t) (g : Lr t u) : Lr s u := by
  refine ⟨fun n x => g.r n (h.r n x), fun n x y => g.w n x (h.w n x y), fun n x => ?_, fun n x => g.k n (h.k n x), fun n x => (g.h n (h.r n x)).trans (h.h n x)⟩
  rcases g.t n x with h1 | h1
  · rcases h.t n h1 with h2 | h2
    · exact .inl h2
    · exact .inr (g.k n h2)
  · exact .inr h1
theorem ad_lr (s : Rs) (n : Nat) : Lr s (ad s n) := by
  unfold ad
  split
  · exact Lr.refl s
  · refine ⟨fun x h => by simp [h], fun _ _ h => h, fun x h => ?_, fun x h => by simp [h], fun _ _ => rfl⟩
    simp at h
    rcases h with h | h
    · exact .inl h
    · exact .inr (by simp [h])
theorem ad_has (s : Rs) (n : Nat) : (ad s n).r n = true := by
  unfold ad
  split
  · assumption
  · simp
theorem edg_lr (es : List Ed) (s : Rs) (k : Nat) : Lr s (edg es s k) := by
  unfold edg
  split
  · rename_i h
    refine ⟨fun _ h => h, fun n x hx => ?_, fun _ h => .inl h, fun _ h => h, fun n hn => ?_⟩
    · dsimp only
      split
      · simp [hx]
      · exact hx
    · dsimp only
      rw [if_neg]
      rintro rfl
      rw [hn] at h
      exact absurd h.2 (by simp)
  · exact ad_lr s _
theorem foldr_lr {f : Rs → Nat → Rs} (hf : ∀ s x, Lr s (f s x)) : ∀ (l : List Nat) (s : Rs), Lr s (l.foldl f s)
  | [], s => Lr.refl s
  | x :: l, s => (hf s x).trans (foldr_lr hf l _)
/-- An edge is done with. -/
def OkE (es : List Ed) (s : Rs) (k : Nat) : Prop := s.r (ge es k).b.toNat = true ∨ (((ge es k).k = 3 ∨ (ge es k).k = 4) ∧ (ge es k).b.toNat ∈ s.w (ge es k).c.toNat)
theorem OkE.mono {es : List Ed} {s t : Rs} {k : Nat} (h : OkE es s k) (g : Lr s t) : OkE es t k := by
  rcases h with h | ⟨h1, h2⟩
  · exact .inl (g.r _ h)
  · exact .inr ⟨h1, g.w _ _ h2⟩
theorem edg_ok (es : List Ed) (s : Rs) (k : Nat) : OkE es (edg es s k) k := by
  unfold edg
  split
  · rename_i h
    refine .inr ⟨?_, ?_⟩
    · have := h.1; unfold retE at this; simpa using this
    · simp
  · exact .inl (ad_has s _)
/-- What the search keeps to; cur is the node that is being looked at. -/
structure Ri (es : List Ed) (m : Int) (s : Rs) (cur : Nat → Prop) : Prop where
  mn : s.r m.toNat = true
  snd : ∀ n, s.r n = true → RE es m n
  tr : ∀ n ∈ s.t, s.r n = true
  ws : ∀ c b, b ∈ s.w c → RE es m c → RE es m b
  ok : ∀ k, k < es.length → s.r (ge es k).a.toNat = true → (ge es k).a.toNat ∉ s.t → ¬ cur (ge es k).a.toNat → OkE es s k
  wt : ∀ c, s.r c = true → c ∉ s.t → ¬ cur c → ∀ b ∈ s.w c, s.r b = true
theorem Ri.later {es : List Ed} {m : Int} {s t : Rs} {cur : Nat → Prop} (h : Ri es m s cur) (g : Lr s t) (h1 : ∀ n, t.r n = true → RE es m n) (h2 : ∀ n ∈ t.t, t.r n = true) (h3 : ∀ c b, b ∈ t.w c → RE es m c → RE es m b) : Ri es m t cur := by
  refine ⟨g.r _ h.mn, h1, h2, h3, fun k hk hr ht hc => ?_, fun c hr ht hc b hb => ?_⟩
  · rcases g.t _ hr with h4 | h4
    · exact (h.ok k hk h4 (fun h5 => ht (g.k _ h5)) hc).mono g
    · exact absurd h4 ht
  · rcases g.t _ hr with h4 | h4
    · rw [g.h c h4] at hb
      exact g.r _ (h.wt c h4 (fun h5 => ht (g.k _ h5)) hc b hb)
    · exact absurd h4 ht
theorem Ri.ad {es : List Ed} {m : Int} {s : Rs} {cur : Nat → Prop} (h : Ri es m s cur) {n : Nat} (hn : RE es m n) : Ri es m (ad s n) cur := by
  refine h.later (ad_lr s n) ?_ ?_ ?_
  · unfold Rc.ad
    split
    · exact h.snd
    · intro x hx
      simp at hx
      rcases hx with hx | rfl
      · exact h.snd x hx
      · exact hn
  · unfold Rc.ad
    split
    · exact h.tr
    · intro x hx
      simp at hx
      rcases hx with hx | rfl
      · simp [h.tr x hx]
      · simp
  · unfold Rc.ad
    split
    · exact h.ws
    · exact h.ws
theorem Ri.edg {es : List Ed} {m : Int} {s : Rs} {cur : Nat → Prop} (h : Ri es m s cur) {k : Nat} (hk : k < es.length) (ha : s.r (ge es k).a.toNat = true) : Ri es m (edg es s k) cur := by
  by_cases h0 : retE es k = true ∧ s.r (ge es k).c.toNat = false
  · refine h.later (edg_lr es s k) ?_ ?_ ?_
    · unfold Rc.edg; rw [if_pos h0]; exact h.snd
    · unfold Rc.edg; rw [if_pos h0]; exact h.tr
    · unfold Rc.edg; rw [if_pos h0]
      intro c b hb hc
      dsimp only at hb
      split at hb
      · rename_i e
        subst e
        rcases List.mem_append.1 hb with h1 | h1
        · exact h.ws _ b h1 hc
        · obtain rfl := List.mem_singleton.1 h1
          exact .ret hk (by have := h0.1; unfold retE at this; simpa using this) (h.snd _ ha) hc
      · exact h.ws c b hb hc
  · unfold Rc.edg
    rw [if_neg h0]
    refine h.ad ?_
    by_cases h1 : retE es k = true
    · have h2 : s.r (ge es k).c.toNat = true := by
        cases hh : s.r (ge es k).c.toNat with
        | true => rfl
        | false => exact absurd ⟨h1, hh⟩ h0
      exact .ret hk (by unfold retE at h1; simpa using h1) (h.snd _ ha) (h.snd _ h2)
    · exact .go hk (by unfold retE at h1; simpa using h1) (h.snd _ ha)
theorem edg_a {es : List Ed} {s : Rs} {k n : Nat} (h : s.r n = true) : (edg es s k).r n = true := (edg_lr es s k).r n h
theorem edges_ri {es : List Ed} {m : Int} {cur : Nat → Prop} {n : Nat} : ∀ (l : List Nat) {s : Rs}, (∀ k ∈ l, k < es.length ∧ (ge es k).a = n) → Ri es m s cur → s.r n = true → Ri es m (l.foldl (edg es) s) cur
  | [], _, _, h, _ => h
  | k :: l, s, hl, h, hn => by
    have h1 := hl k (by simp)
    exact edges_ri l (fun x hx => hl x (by simp [hx])) (h.edg h1.1 (by rw [h1.2]; simpa using hn)) (edg_a hn)
theorem edges_ok (es : List Ed) : ∀ (l : List Nat) (s : Rs), ∀ k ∈ l, OkE es (l.foldl (edg es) s) k
  | x :: l, s, k, hk => by
    rw [List.foldl_cons]
    rcases List.mem_cons.1 hk with rfl | h
    · exact (edg_ok es s k).mono (foldr_lr (edg_lr es) l _)
    · exact edges_ok es l _ k h
theorem adds_ri {es : List Ed} {m : Int} {cur : Nat → Prop} : ∀ (l : List Nat) {s : Rs}, (∀ n ∈ l, RE es m n) → Ri es m s cur → Ri es m (l.foldl ad s) cur
  | [], _, _, h => h
  | n :: l, s, hl, h => adds_ri l (fun x hx => hl x (by simp [hx])) (h.ad (hl n (by simp)))
theorem adds_has : ∀ (l : List Nat) (s : Rs), ∀ n ∈ l, (l.foldl ad s).r n = true
  | x :: l, s, n, hn => by
    rw [List.foldl_cons]
    rcases List.mem_cons.1 hn with rfl | h
    · exact (foldr_lr ad_lr l _).r n (ad_has s n)
    · exact adds_has l _ n h
/-- A node is looked at. -/
def look (es : List Ed) (s : Rs) (n : Nat) : Rs := (((outE es n).foldl (edg es) s).w n).foldl ad ((outE es n).foldl (edg es) s)
theorem outE_mem {es : List Ed} {n k : Nat} : k ∈ outE es n ↔ k < es.length ∧ (ge es k).a = n := by simp [outE]
theorem Ri.pop {es : List Ed} {m : Int} {s : Rs} {n : Nat} {l : List Nat} (h : Ri es m s (fun _ => False)) (ht : s.t = l ++ [n]) : Ri es m (popd s) (fun x => x = n) := by
  have hp : (popd s).t = l := by simp [popd, ht]
  refine ⟨h.mn, h.snd, fun x hx => h.tr x (by rw [hp] at hx; rw [ht]; simp [hx]), h.ws, fun k hk hr h1 h2 => ?_, fun c hr h1 h2 => ?_⟩
  · exact h.ok k hk hr (by rw [hp] at h1; rw [ht]; simp; exact ⟨h1, h2⟩) (by simp)
  · exact h.wt c hr (by rw [hp] at h1; rw [ht]; simp; exact ⟨h1, h2⟩) (by simp)
theorem Ri.look {es : List Ed} {m : Int} {s : Rs} {n : Nat} (hp : ∀ k, k < es.length → 0 ≤ (ge es k).a) (h : Ri es m s (fun x => x = n)) (hn : s.r n = true) : Ri es m (look es s n) (fun _ => False) := by
  have h1 : Ri es m ((outE es n).foldl (Rc.edg es) s) (fun x => x = n) := edges_ri _ (fun k hk => outE_mem.1 hk) h hn
  have h2 := foldr_lr (edg_lr es) (outE es n) s
  have h3 : Ri es m (Rc.look es s n) (fun x => x = n) := adds_ri _ (fun b hb => h1.ws n b hb (h1.snd n (h2.r n hn))) h1
  have h4 : Lr ((outE es n).foldl (Rc.edg es) s) (Rc.look es s n) := foldr_lr ad_lr _ _
  refine ⟨h3.mn, h3.snd, h3.tr, h3.ws, fun k hk hr ht _ => ?_, fun c hr ht _ b hb => ?_⟩
  · by_cases e : (ge es k).a.toNat = n
    · exact (edges_ok es _ s k (outE_mem.2 ⟨hk, by have := hp k hk; omega⟩)).mono h4
    · exact h3.ok k hk hr ht e
  · by_cases e : c = n
    · subst e
      rw [h4.h c (h2.r c hn)] at hb
      exact adds_has _ _ b hb
    · exact h3.wt c hr ht e b hb
/-- Where nothing is left to be looked at, the reached nodes are found. -/
theorem Ri.done {es : List Ed} {m : Int} {s : Rs} (h : Ri es m s (fun _ => False)) (ht : s.t = []) (n : Nat) : s.r n = true ↔ RE es m n := by
  refine ⟨h.snd n, fun hn => ?_⟩
  induction hn with
  | main => exact h.mn
  | go hk h2 _ ih =>
    rcases h.ok _ hk ih (by simp [ht]) (by simp) with h3 | h3
    · exact h3
    · exact absurd h3.1 h2
  | ret hr h2 _ _ ih1 ih2 =>
    rcases h.ok _ hr ih1 (by simp [ht]) (by simp) with h3 | h3
    · exact h3
    · exact h.wt _ ih2 (by simp [ht]) (by simp) _ h3.2
def rs0 (m : Int) : Rs := ad ⟨fun _ => false, fun _ => [], []⟩ m.toNat
theorem Ri.init (es : List Ed) (m : Int) : Ri es m (rs0 m) (fun _ => False) := by
  have e : rs0 m = ⟨fun x => x == m.toNat, fun _ => [], [m.toNat]⟩ := by unfold rs0 Rc.ad; simp
  rw [e]
  refine ⟨by simp, fun n hn => ?_, fun n hn => ?_, fun _ _ h => (by cases h), fun k _ hr ht _ => ?_, fun _ _ _ _ _ h => (by cases h)⟩
  · have : n = m.toNat := by simpa using hn
    rw [this]; exact .main
  · simpa using hn
  · exact absurd hr (by simpa using ht)
/-- What falls with each look. -/
def meaR (N : Nat) (s : Rs) : Nat := 2 * ((List.range N).countP fun x => !s.r x) + s.t.length
theorem mea_ad {N : Nat} (s : Rs) {n : Nat} (hn : n < N) : meaR N (ad s n) ≤ meaR N s := by
  unfold ad
  split
  · exact Nat.le_refl _
  · rename_i h
    have h1 : ((List.range N).countP fun x => !(s.r x || x == n)) < (List.range N).countP fun x => !s.r x :=
      countP_lt (y := n) (fun x hx => by simp at hx ⊢; exact hx.1) (by simpa using h) (by simp) _ (List.mem_range.2 hn)
    unfold meaR
    simp only [List.length_append, List.length_singleton]
    omega
theorem mea_edg {N : Nat} {es : List Ed} (s : Rs) {k : Nat} (hk : (ge es k).b.toNat < N) : meaR N (edg es s k) ≤ meaR N s := by
  unfold edg
  split
  · exact Nat.le_refl _
  · exact mea_ad s hk
theorem mea_edges {N : Nat} {es : List Ed} : ∀ (l : List Nat) (s : Rs), (∀ k ∈ l, (ge es k).b.toNat < N) → meaR N (l.foldl (edg es) s) ≤ meaR N s
  | [], s, _ => Nat.le_refl _
  | k :: l, s, h => Nat.le_trans (mea_edges l _ (fun x hx => h x (by simp [hx]))) (mea_edg s (h k (by simp)))
theorem mea_adds {N : Nat} : ∀ (l : List Nat) (s : Rs), (∀ k ∈ l, k < N) → meaR N (l.foldl ad s) ≤ meaR N s
  | [], s, _ => Nat.le_refl _
  | k :: l, s, h => Nat.le_trans (mea_adds l _ (fun x hx => h x (by simp [hx]))) (mea_ad s (h k (by simp)))
theorem mea_popd {N : Nat} {s : Rs} {n : Nat} {l : List Nat} (ht : s.t = l ++ [n]) : meaR N (popd s) + 1 = meaR N s := by
  unfold meaR popd
  simp [ht]
  omega
end Rc
end Go.Df
