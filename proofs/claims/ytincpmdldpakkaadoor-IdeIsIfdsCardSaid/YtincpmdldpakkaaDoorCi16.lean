/- Texts: Ac Bm Bn. -/
import Derived.Test.YtincpmdldpakkaaDoorCi15
namespace Go.Df
open Go.RowKit
namespace Iv
open Sp
def EL (p : Vb) (kk j k b : Nat) : List Nat := if (ge p.es k).k = 2 then (if k < kk then entL p k b else if k = kk then (List.range j).filter fun i => (gx (gl p.fl k) i).o == (b : Int) else []) else []
def EC (p : Vb) (kk j k : Nat) : Nat := if (ge p.es k).k = 2 then (if k < kk then (gl p.fl k).length else if k = kk then j else 0) else 0
theorem EL_zero (p : Vb) (k b : Nat) : EL p 0 0 k b = [] := by
 unfold EL
 split
 · rw [if_neg (by omega)]
   split <;> simp
 · rfl
theorem EL_edge {p : Vb} {kk : Nat} (j : Nat) (h : (ge p.es kk).k = 2 → j = (gl p.fl kk).length) : EL p kk j = EL p (kk + 1) 0 := by
 funext k b
 unfold EL
 by_cases h2 : (ge p.es k).k = 2
 · rw [if_pos h2, if_pos h2]
   by_cases h3 : k < kk
   · rw [if_pos h3, if_pos (by omega)]
   · rw [if_neg h3]
     by_cases h4 : k = kk
     · subst h4
       rw [if_pos rfl, if_pos (by omega), h h2]
       rfl
     · rw [if_neg h4, if_neg (by omega)]
       split <;> simp
 · rw [if_neg h2, if_neg h2]
theorem EC_edge {p : Vb} {kk : Nat} (j : Nat) (h : (ge p.es kk).k = 2 → j = (gl p.fl kk).length) : EC p kk j = EC p (kk + 1) 0 := by
 funext k
 unfold EC
 by_cases h2 : (ge p.es k).k = 2
 · rw [if_pos h2, if_pos h2]
   by_cases h3 : k < kk
   · rw [if_pos h3, if_pos (by omega)]
   · rw [if_neg h3]
     by_cases h4 : k = kk
     · subst h4
       rw [if_pos rfl, if_pos (by omega), h h2]
     · rw [if_neg h4, if_neg (by omega)]
       split <;> rfl
 · rw [if_neg h2, if_neg h2]
theorem EL_pair {p : Vb} {kk j o : Nat} (h2 : (ge p.es kk).k = 2) (ho : (gx (gl p.fl kk) j).o = (o : Int)) : EL p kk (j + 1) = upd2 (EL p kk j) kk o (EL p kk j kk o ++ [j]) := by
 funext k b
 by_cases e : k = kk ∧ b = o
 · obtain ⟨rfl, rfl⟩ := e
   rw [upd2_at]
   unfold EL
   simp only [h2, if_true, Nat.lt_irrefl, if_false]
   rw [filter_one, if_pos (by simp [ho])]
 · rw [upd2_ne e]
   unfold EL
   by_cases e1 : k = kk
   · subst e1
     simp only [h2, if_true, Nat.lt_irrefl, if_false]
     rw [filter_one, if_neg (by simp [ho]; intro h; exact e ⟨rfl, by omega⟩)]
   · by_cases h3 : (ge p.es k).k = 2
     · rw [if_pos h3, if_pos h3, if_neg e1, if_neg e1]
     · rw [if_neg h3, if_neg h3]
theorem EC_pair {p : Vb} {kk j : Nat} (h2 : (ge p.es kk).k = 2) (k : Nat) : EC p kk (j + 1) k = if k = kk then EC p kk j k + 1 else EC p kk j k := by
 unfold EC
 by_cases e1 : k = kk
 · subst e1
   simp only [h2, if_true, Nat.lt_irrefl, if_false]
 · rw [if_neg e1, if_neg e1, if_neg e1]
theorem EL_len (p : Vb) (kk j k b : Nat) : (EL p kk j k b).length ≤ (gl p.fl k).length ∨ (EL p kk j k b).length ≤ j := by
 unfold EL
 split
 · split
   · left
     have h := List.length_filter_le (fun i => (gx (gl p.fl k) i).o == (b : Int)) (List.range (gl p.fl k).length)
     rw [List.length_range] at h
     exact h
   · split
     · right
       have h := List.length_filter_le (fun i => (gx (gl p.fl k) i).o == (b : Int)) (List.range j)
       rw [List.length_range] at h
       exact h
     · left; exact Nat.zero_le _
 · left; exact Nat.zero_le _
end Iv
section
variable {e : Nat → TypeId} {sz : Nat → Nat} {lim : Nat} {w w1 : World} {r : Nat → Nat} {N : Nat} {v : Nat → Nat → Value} {n : Nat → Nat → Nat} {l : Nat → Nat → List Value}
theorem Rg.keptD {X : List Nat} (h : Rg e sz lim w r N v n l) (hk : Kept X w w1) (hX : ∀ x ∈ X, (∀ t, t < 5 → x ≠ r t) ∧ ∀ t i, t < 5 → i < N → (v t i).ownBlock ≠ some x) : Rg e sz lim w1 r N v n l := by
 have hr : ∀ t, t < 5 → r t ∉ X := fun t ht hm => (hX _ hm).1 t ht rfl
 have hrl : ∀ t, t < 5 → r t < w.heap.size := fun t ht => Nat.lt_of_lt_of_le (h.rlt t ht) h.hlim
 exact ⟨fun t i ht hi => (hk.cell (r t) i (hrl t ht) (hr t ht)).trans (h.cell t i ht hi), fun t i ht => (hk.frozen (r t) i (hrl t ht) (hr t ht)).trans (h.fr t i ht), h.rlt, Nat.le_trans h.hlim hk.size, h.rr,
   fun t i ht hi => own_kept2 (h.own t i ht hi) hk (fun g hg hm => (hX g hm).2 t i ht hi hg), h.vv⟩
def RO (N : Nat) (v : Nat → Nat → Value) : Nat → Prop := fun x => ∃ t i, t < 5 ∧ i < N ∧ (v t i).ownBlock = some x
def EO (N : Nat) (v : Nat → Value → Value) : Nat → Prop := fun x => ∃ k b : Nat, k < N ∧ (v k (.int .i64 (b : Nat))).ownBlock = some x
end
end Go.Df
namespace Go.Proofs.YtincpmdldpakkaaDoor
open Go.RowKit Go.Df Go.Df.Iv Go.Df.Sp
structure En (lim : Nat) (w : World) (r N : Nat) (m : Nat → Option Nat) (c : Nat → Nat) (v : Nat → Value → Value) (L : Nat → Nat → List Nat) (C : Nat → Nat) : Prop where
 tb : TbL w r N m c v
 own : ∀ k b : Nat, k < N → w.ownsRow lim 3 1 (v k (.int .i64 (b : Nat))) (L k b).length ((ofNats (L k b)).map (Value.int .i64))
 inj : ∀ (k b k' b' : Nat) x, k < N → k' < N → (v k (.int .i64 (b : Nat))).ownBlock = some x → (v k' (.int .i64 (b' : Nat))).ownBlock = some x → k = k' ∧ b = b'
 mge : ∀ k x, k < N → m k = some x → lim ≤ x
 rlt : r < lim
 cb : ∀ k, k < N → c k ≤ C k
section
variable {lim r N : Nat} {w w' : World} {m : Nat → Option Nat} {c : Nat → Nat} {v : Nat → Value → Value} {L : Nat → Nat → List Nat} {C : Nat → Nat}
theorem En.mobj (h : En lim w r N m c v L C) {k x : Nat} (hk : k < N) (hx : m k = some x) : ∃ es clock, w.heap[x]? = some (.map es clock) := (h.tb.is k x hk hx).obj
theorem En.kept {X : List Nat} (h : En lim w r N m c v L C) (hk : Kept X w w') (hX : ∀ x ∈ X, x ≠ r ∧ (∀ k, k < N → m k ≠ some x) ∧ ¬ EO N v x) : En lim w' r N m c v L C :=
 ⟨h.tb.kept hk (fun hm => (hX _ hm).1 rfl) (fun n _ hn hb hm => (hX _ hm).2.1 n hn hb), fun k b hk' => own_kept2 (h.own k b hk') hk (fun _ hg hm => (hX _ hm).2.2 ⟨k, b, hk', hg⟩), h.inj, h.mge, h.rlt, h.cb⟩
theorem En.low {X : List Nat} (h : En lim w r N m c v L C) (hk : Kept X w w') (hX : ∀ x ∈ X, x < lim ∧ x ≠ r) : En lim w' r N m c v L C :=
 h.kept hk (fun x hx => ⟨(hX x hx).2, fun k hk' hm => by have h1 := h.mge k x hk' hm; have := (hX x hx).1; omega, fun ⟨k, b, hk', hb⟩ => by have h1 := own_ge (h.own k b hk') hb; have := (hX x hx).1; omega⟩)
theorem En.row {t : TypeId} {y : Nat} {A : Value} {n : Nat} {xs : List Value} (h : En lim w r N m c v L C) (hk : Kept (y :: A.ownBlock.toList) w w') (hy : y < lim) (hyr : y ≠ r) (hA : w.ownsRow lim t 1 A n xs ∨ w.ownsRow lim t 4 A n xs) (hd : ∀ x, A.ownBlock = some x → ¬ EO N v x) : En lim w' r N m c v L C := by
 have tg : ∀ x, A.ownBlock = some x → Tag w x t := fun x hx => hA.elim (fun h => own_tag h hx) (fun h => own_tag h hx)
 have ge : ∀ x, A.ownBlock = some x → lim ≤ x := fun x hx => hA.elim (fun h => own_ge h hx) (fun h => own_ge h hx)
 refine h.kept hk (fun x hx => ?_)
 rcases List.mem_cons.1 hx with rfl | hx
 · exact ⟨hyr, fun k hk' hm => by have h1 := h.mge k x hk' hm; omega, fun ⟨k, b, hk', hb⟩ => by have h1 := own_ge (h.own k b hk') hb; omega⟩
 · have hx : A.ownBlock = some x := by simpa using hx
   exact ⟨fun e => by have h1 := ge x hx; have := h.rlt; omega, fun k hk' hm => (tg x hx).ne_map (h.mobj hk' hm) rfl, hd x hx⟩
theorem En.add (h : En lim w r N m c v L C) (hlim : lim ≤ w.heap.size) {k b x n' c' : Nat} {A : Option Addr} {w1 : World} {e : Ending} (hk : k < N) (hn' : n' = (L k b ++ [x]).length)
   (hk1 : Kept (v k (.int .i64 (b : Nat))).ownBlock.toList w w1) (hv : w1.ownsRow lim 3 1 (.slice A n' c') n' ((ofNats (L k b ++ [x])).map (Value.int .i64)))
   (hg : ∀ g, (Value.slice A n' c').ownBlock = some g → (v k (.int .i64 (b : Nat))).ownBlock = some g ∨ w.heap.size ≤ g)
   (hp : PutT Tryd.prog 3 173 (.slice none 0 0) w1 r N m c v k (.int .i64 (b : Nat)) (.slice A n' c') e w') :
   ∃ m' c'' v', e = .returned (.tuple #[]) ∧ En lim w' r N m' c'' v' (upd2 L k b (L k b ++ [x])) (fun i => if i = k then C i + 1 else C i) ∧ Kept (r :: ((m k).toList ++ (v k (.int .i64 (b : Nat))).ownBlock.toList)) w w' ∧ (∀ y, EO N v' y → EO N v y ∨ w.heap.size ≤ y) ∧ ∀ i y, i < N → m' i = some y → m i = some y ∨ w.heap.size ≤ y := by
 obtain ⟨m', he, hT, hk2, hm1, hm2⟩ := hp
 have hsz := hk1.size
 have ntM : (3 : TypeId) ≠ 173 := by decide
 have hold := h.own k b hk
 have tr1 : Tag w1 r 173 := h.tb.rtag.same (hk1.block r h.tb.rtag.lt (fun hm => (own_tag hold (by simpa using hm)).ne h.tb.rtag ntM rfl))
 have hmk1 : ∀ i y, i < N → m i = some y → ∃ es clock, w1.heap[y]? = some (.map es clock) := fun i y hi hy => by
   obtain ⟨es, cl, h3⟩ := h.mobj hi hy
   exact ⟨es, cl, (hk1.block y (Array.getElem?_eq_some_iff.1 h3).1 (fun hm => (own_tag hold (by simpa using hm)).ne_map ⟨es, cl, h3⟩ rfl)).trans h3⟩
 have far : ∀ y, Tag w1 y 3 → y ∉ r :: (m k).toList := fun y ht hm => by
   rcases List.mem_cons.1 hm with h1 | h1
   · exact ht.ne tr1 ntM h1
   · exact ht.ne_map (hmk1 k y hk (by simpa using h1)) rfl
 have ho1 : ∀ k' b' : Nat, k' < N → ¬ (k' = k ∧ b' = b) → w1.ownsRow lim 3 1 (v k' (.int .i64 (b' : Nat))) (L k' b').length ((ofNats (L k' b')).map (Value.int .i64)) := fun k' b' hk' hne =>
   own_kept2 (h.own k' b' hk') hk1 (fun g hg' hm => hne (h.inj k' b' k b g hk' hk hg' (by simpa using hm)))
 have eV : updV v k (.int .i64 (b : Nat)) (.slice A n' c') k (.int .i64 (b : Nat)) = .slice A n' c' := updV_at _ _ _ _
 have nV : ∀ k' b' : Nat, ¬ (k' = k ∧ b' = b) → updV v k (.int .i64 (b : Nat)) (.slice A n' c') k' (.int .i64 (b' : Nat)) = v k' (.int .i64 (b' : Nat)) := fun k' b' hne => by
   unfold updV
   rw [if_neg (fun hh => hne ⟨hh.1, int_key hh.2⟩)]
 have hEO : ∀ y, EO N (updV v k (.int .i64 (b : Nat)) (.slice A n' c')) y → EO N v y ∨ w.heap.size ≤ y := fun y ⟨k', b', hk', hy⟩ => by
   by_cases e1 : k' = k ∧ b' = b
   · obtain ⟨rfl, rfl⟩ := e1
     rw [eV] at hy
     exact (hg y hy).imp (fun h1 => ⟨k', b', hk', h1⟩) id
   · rw [nV _ _ e1] at hy
     exact .inl ⟨k', b', hk', hy⟩
 refine ⟨m', _, _, he, ⟨hT, fun k' b' hk' => ?_, fun k1 b1 k2 b2 y h1 h2 h3 h4 => ?_, fun i y hi hy => ?_, h.rlt, fun i hi => ?_⟩, ?_, hEO, fun i y hi hy => ?_⟩
 · by_cases e1 : k' = k ∧ b' = b
   · obtain ⟨rfl, rfl⟩ := e1
     rw [eV, upd2_at, ← hn']
     exact own_kept2 hv hk2 (fun g hg' => far g (own_tag hv hg'))
   · rw [nV _ _ e1, upd2_ne e1]
     have h9 := ho1 k' b' hk' e1
     exact own_kept2 h9 hk2 (fun g hg' => far g (own_tag h9 hg'))
 · by_cases e1 : k1 = k ∧ b1 = b
   · obtain ⟨rfl, rfl⟩ := e1
     rw [eV] at h3
     by_cases e2 : k2 = k1 ∧ b2 = b1
     · exact ⟨e2.1.symm, e2.2.symm⟩
     · rw [nV _ _ e2] at h4
       rcases hg y h3 with h5 | h5
       · exact h.inj _ _ _ _ y h1 h2 h5 h4
       · have := own_lt2 (h.own k2 b2 h2) h4; omega
   · rw [nV _ _ e1] at h3
     by_cases e2 : k2 = k ∧ b2 = b
     · obtain ⟨rfl, rfl⟩ := e2
       rw [eV] at h4
       rcases hg y h4 with h5 | h5
       · exact h.inj _ _ _ _ y h1 h2 h3 h5
       · have := own_lt2 (h.own k1 b1 h1) h3; omega
     · rw [nV _ _ e2] at h4
       exact h.inj _ _ _ _ y h1 h2 h3 h4
 · by_cases e1 : i = k
   · subst e1
     rcases hm2 with h1 | ⟨_, z, h1, h2⟩
     · exact h.mge i y hi (by rw [← h1]; exact hy)
     · rw [hy] at h1
       injection h1 with h1
       omega
   · exact h.mge i y hi (by rw [← hm1 i e1]; exact hy)
 · have h9 := h.cb i hi
   show (if i = k then c k + 1 else c i) ≤ if i = k then C i + 1 else C i
   by_cases e1 : i = k
   · subst e1; simp; exact h9
   · rw [if_neg e1, if_neg e1]; exact h9
 · exact (keptWide hk1 (fun y hy => List.mem_cons_of_mem _ (List.mem_append.2 (.inr hy)))).next hk2 (fun y hy => .inl (by
     rcases List.mem_cons.1 hy with h1 | h1
     · exact List.mem_cons.2 (.inl h1)
     · exact List.mem_cons_of_mem _ (List.mem_append.2 (.inl h1))))
 · by_cases e1 : i = k
   · subst e1
     rcases hm2 with h1 | ⟨_, z, h1, h2⟩
     · exact .inl (by rw [← h1]; exact hy)
     · rw [hy] at h1
       injection h1 with h1
       exact .inr (by omega)
   · exact .inl (by rw [← hm1 i e1]; exact hy)
theorem En.tb1 (h : En lim w r N m c v L C) {k b : Nat} {w1 : World} (hk : k < N) (hk1 : Kept (v k (.int .i64 (b : Nat))).ownBlock.toList w w1) : TbL w1 r N m c v :=
 h.tb.kept hk1 (fun hm => (own_tag (h.own k b hk) (by simpa using hm)).ne h.tb.rtag (by decide) rfl) (fun n _ hn hb hm => (own_tag (h.own k b hk) (by simpa using hm)).ne_map (h.mobj hn hb) rfl)
theorem En.mono (h : En lim w r N m c v L C) {L' : Nat → Nat → List Nat} {C' : Nat → Nat} (e1 : L = L') (e2 : C = C') : En lim w r N m c v L' C' := by subst e1; subst e2; exact h
theorem Rg.apart {ee : Nat → TypeId} {sz : Nat → Nat} {rr : Nat → Nat} {M : Nat} {rv : Nat → Nat → Value} {rn : Nat → Nat → Nat} {rl : Nat → Nat → List Value} (hR : Rg ee sz lim w rr M rv rn rl) (h : En lim w r N m c v L C) {k b : Nat} (hk : k < N)
   (hK : Kept (r :: ((m k).toList ++ (v k (.int .i64 (b : Nat))).ownBlock.toList)) w w') (hr : ∀ t, t < 5 → rr t ≠ r) (hd : ∀ x, RO M rv x → ¬ EO N v x) : Rg ee sz lim w' rr M rv rn rl := by
 refine hR.keptD hK (fun x hx => ?_)
 rcases List.mem_cons.1 hx with rfl | hx
 · exact ⟨fun t ht e => hr t ht e.symm, fun t i ht hi hb => by have h1 := own_ge (hR.own t i ht hi) hb; have := h.rlt; omega⟩
 · rcases List.mem_append.1 hx with hx | hx
   · have hx : m k = some x := by simpa using hx
     exact ⟨fun t ht e => by have h1 := h.mge k x hk hx; have := hR.rlt t ht; omega, fun t i ht hi hb => (own_tag (hR.own t i ht hi) hb).ne_map (h.mobj hk hx) rfl⟩
   · have hx : (v k (.int .i64 (b : Nat))).ownBlock = some x := by simpa using hx
     exact ⟨fun t ht e => by have h1 := own_ge (h.own k b hk) hx; have := hR.rlt t ht; omega, fun t i ht hi hb => hd x ⟨t, i, ht, hi, hb⟩ ⟨k, b, hk, hx⟩⟩
end
end Go.Proofs.YtincpmdldpakkaaDoor
namespace Go.Proofs.YtincpmdldpakkaaDoor
open Go.RowKit Go.Df Go.Df.Iv Go.Df.Sp
section
variable {p : Vb} {K : Kn} {w0 : World} {b : Nat} {O O' : Nat → Prop} {G : Gh} {w w' : World} {s : St}
theorem Mem.put_list (h : Mem p K w0 b O G w s) {i n a x N : Nat} {A : Option Addr} {c : Nat} {w1 : World} {e : Ending} (hi : i = 1 ∨ i = 2) (hn : n < K.n1) (hN : N = (s.ls i n a ++ [x]).length)
   (hk1 : Kept (G.wv i n (.int .i64 (a : Nat))).ownBlock.toList w w1) (hv : w1.ownsRow w0.heap.size 3 1 (.slice A N c) N ((ofNats (s.ls i n a ++ [x])).map (Value.int .i64)))
   (hg : ∀ g, (Value.slice A N c).ownBlock = some g → (G.wv i n (.int .i64 (a : Nat))).ownBlock = some g ∨ (g = w.heap.size ∧ Kept [] w w1))
   (hp : PutT Tryd.prog 3 173 (.slice none 0 0) w1 (K.tr i) K.n1 (G.m i) (G.c i) (G.wv i) n (.int .i64 (a : Nat)) (.slice A N c) e w') :
   ∃ O' G', e = .returned (.tuple #[]) ∧ Mem p K w0 b O' G' w' (s.addL i n a x) ∧ Fy K O O' G G' s (s.addL i n a x) w w' := by
 obtain ⟨m', he, hT, hk, hm1, hm2⟩ := hp
 have hi4 : i < 4 := by omega
 have hL : OwnL G i n a (G.wv i n (.int .i64 (a : Nat))).ownBlock.toList := fun y hy => ⟨hi, by simpa using hy⟩
 have hsz1 : w.heap.size ≤ w1.heap.size := hk1.size
 have Nn : NewM G w w' i n m' := ⟨hm1, by
   rcases hm2 with h1 | ⟨h1, y, h2, h3⟩
   · exact .inl h1
   · exact .inr ⟨h1, y, h2, by omega⟩, fun x hx => (hT.is n x hn hx).lt⟩
 have hk2 : Kept (K.tr i :: ((G.m i n).toList ++ (G.wv i n (.int .i64 (a : Nat))).ownBlock.toList)) w w' := (keptWide hk1 (fun y hy => List.mem_cons_of_mem _ (List.mem_append.2 (.inr hy)))).next hk (fun y hy => .inl (by
   rcases List.mem_cons.1 hy with h1 | h1
   · exact List.mem_cons.2 (.inl h1)
   · exact List.mem_cons_of_mem _ (List.mem_append.2 (.inl h1))))
 obtain ⟨g0, hg0⟩ : ∃ g0, (Value.slice A N c).ownBlock = some g0 := by
   rcases hv.2 with ⟨-, h2⟩ | ⟨g, cap, cur, h1, _⟩
   · subst h2; simp at hN
   · exact ⟨g, by rw [h1]; rfl⟩
 have tg0 := own_tag hv hg0
 have nt : ∀ {j : Nat}, j < 4 → rowT j ≠ 3 := fun _ => by unfold rowT; (repeat' split) <;> decide
 have tr1 : Tag w1 (K.tr i) (rowT i) := (h.rtag hi4).same (hk1.block _ (h.rtag hi4).lt (fun hm => (h.rtag hi4).ne (h.ltag hL hn hm) (nt hi4) rfl))
 have g0X : g0 ∉ K.tr i :: (G.m i n).toList := fun hm => by
   rcases List.mem_cons.1 hm with h1 | h1
   · exact tg0.ne tr1 (nt hi4).symm h1
   · have h2 : G.m i n = some g0 := by simpa using h1
     obtain ⟨es, cl, h3⟩ := h.mobj hi4 hn h2
     exact tg0.ne_map ⟨es, cl, (hk1.block g0 (Array.getElem?_eq_some_iff.1 h3).1 (fun hm => (h.ltag hL hn hm).ne_map ⟨es, cl, h3⟩ rfl)).trans h3⟩ rfl
 have hv' : w'.ownsRow w0.heap.size 3 1 (.slice A N c) N ((ofNats (s.ls i n a ++ [x])).map (Value.int .i64)) := own_kept2 hv hk (fun g hg => by rw [hg0] at hg; injection hg with hg; rw [← hg]; exact g0X)
 obtain ⟨O', hO'⟩ : ∃ O' : Nat → Prop, O' = fun y => ((O y ∧ (G.wv i n (.int .i64 (a : Nat))).ownBlock ≠ some y) ∨ m' n = some y) ∨ g0 = y := ⟨_, rfl⟩
 have hO1 : ∀ y, O y → (G.wv i n (.int .i64 (a : Nat))).ownBlock ≠ some y → O' y := fun y h1 h2 => by rw [hO']; exact .inl (.inl ⟨h1, h2⟩)
 have hO2 : ∀ y, m' n = some y → O' y := fun y h1 => by rw [hO']; exact .inl (.inr h1)
 have hO3 : O' g0 := by rw [hO']; exact .inr rfl
 have hg0n : O g0 ∨ w.heap.size ≤ g0 := by
   rcases hg g0 hg0 with h1 | ⟨h1, -⟩
   · exact .inl (h.ow i n a g0 hi hn h1)
   · exact .inr (by omega)
 have hOO : ∀ y, O' y → O y ∨ w.heap.size ≤ y := fun y hy => by
   rw [hO'] at hy
   rcases hy with (h1 | h1) | h1
   · exact .inl h1.1
   · rcases Nn.new h1 with h2 | h2
     · exact .inl (h.om i n y hi4 hn h2)
     · exact .inr h2
   · rw [← h1]; exact hg0n
 have f : Fx O O' w w' := Fx.of hk2 (fun y hy => .inl (h.oX hi4 hn hL y hy)) hOO
 have S := h.side hi4 hn hL hk2 f
 have nl : ∀ y t, Tag w y t → t ≠ 3 → (G.wv i n (.int .i64 (a : Nat))).ownBlock ≠ some y := fun y t ht hne hy => ht.ne (own_tag (h.hw i n a hi hn) hy) hne rfl
 have nm : ∀ y j l, j < 4 → l < K.n1 → G.m j l = some y → (G.wv i n (.int .i64 (a : Nat))).ownBlock ≠ some y := fun y j l hj hl hm hy => (own_tag (h.hw i n a hi hn) hy).ne_map (h.mobj hj hl hm) rfl
 have eW : ∀ {j l k : Nat}, (j = i ∧ l = n ∧ k = a) → (if j = i then updV (G.wv i) n (.int .i64 (a : Nat)) (.slice A N c) else G.wv j) l (.int .i64 (k : Nat)) = .slice A N c := fun hh => by
   obtain ⟨rfl, rfl, rfl⟩ := hh
   rw [if_pos rfl, updV_at]
 have nW : ∀ {j l k : Nat}, ¬ (j = i ∧ l = n ∧ k = a) → (if j = i then updV (G.wv i) n (.int .i64 (a : Nat)) (.slice A N c) else G.wv j) l (.int .i64 (k : Nat)) = G.wv j l (.int .i64 (k : Nat)) := fun {j l k} hh => by
   by_cases e1 : j = i
   · rw [if_pos e1, updV_ne, e1]
     rintro ⟨e2, e3⟩
     exact hh ⟨e1, e2, int_key e3⟩
   · rw [if_neg e1]
 have eS : ∀ {j l k : Nat}, (j = i ∧ l = n ∧ k = a) → (s.addL i n a x).ls j l k = s.ls i n a ++ [x] := fun hh => if_pos hh
 have nS : ∀ {j l k : Nat}, ¬ (j = i ∧ l = n ∧ k = a) → (s.addL i n a x).ls j l k = s.ls j l k := fun hh => if_neg hh
 refine ⟨O', { G.setM i m' (fun j => if j = n then G.c i n + 1 else G.c i j) with wv := fun j => if j = i then updV (G.wv i) n (.int .i64 (a : Nat)) (.slice A N c) else G.wv j }, he, ?_, f, fun A2 n2 l hs => ?_⟩
 · refine
   { low := S.stat.low, og := fun y hy => ?_, ob := hO1 b h.ob (nl b _ h.btag (by decide)), box := S.box, btag := S.btag, start := S.stat.start, out := S.stat.out, calls := S.stat.calls, leav := S.stat.leav, rets := S.stat.rets, seeds := S.stat.seeds, entr := S.stat.entr, entO := S.stat.entO, ents := S.stat.ents,
     tj := ?_, tw := fun j hj => ?_, tv := ?_, hj := h.hj, hv := h.hv, jno := h.jno, hw := fun j m k hj hm => ?_, otr := fun j hj => hO1 _ (h.otr j hj) (nl _ _ (h.rtag hj) (nt hj)), opr := hO1 _ h.opr (nl _ _ h.ptag (by decide)), om := fun j l y hj hl hy => ?_, ow := fun j m k y hj hm hy => ?_, opv := fun m y hm hy => hO1 y (h.opv m y hm hy) (nl y _ (own_tag (h.pown m hm) hy) (by decide)),
     minj := fun j j' l l' x hj hj' hl hl' hx hx' => h.minj2 hi4 hn Nn hj hj' hl hl' hx hx', winj := fun j m k j' m' k' y hj hj' hm hm' hy hy' => ?_, trne := h.trne, prow := S.prow, ptag := S.ptag, pown := S.pown, dpp := h.dpp, queue := S.queue, rank := S.rank, cb := cb_up h.cb hi4 hn, pb := fun m hm => ?_ }
   · refine ⟨?_, ?_⟩
     · rcases hOO y hy with h1 | h1
       · exact (h.og y h1).1
       · have := h.low.size; omega
     · rw [hO'] at hy
       rcases hy with (h1 | h1) | h1
       · have := (h.og y h1.1).2; have := f.size; omega
       · exact Nn.lt y h1
       · have := tg0.lt; have := hk.size; omega
   · have e := Iv.Gh.setM_m G i m' (fun j => if j = n then G.c i n + 1 else G.c i j) (j := 0) (by omega)
     show TbX w' (K.tr 0) K.n1 ((G.setM i m' (fun j => if j = n then G.c i n + 1 else G.c i j)).m 0) ((G.setM i m' (fun j => if j = n then G.c i n + 1 else G.c i j)).c 0) G.jv
     rw [e.1, e.2]
     exact S.tj (by omega)
   · show TbL w' (K.tr j) K.n1 ((G.setM i m' (fun j => if j = n then G.c i n + 1 else G.c i j)).m j) ((G.setM i m' (fun j => if j = n then G.c i n + 1 else G.c i j)).c j) (if j = i then updV (G.wv i) n (.int .i64 (a : Nat)) (.slice A N c) else G.wv j)
     by_cases e : j = i
     · subst e
       rw [(Iv.Gh.setM_at G j m' _).1, (Iv.Gh.setM_at G j m' _).2, if_pos rfl]
       exact hT
     · rw [(Iv.Gh.setM_m G i m' _ e).1, (Iv.Gh.setM_m G i m' _ e).2, if_neg e]
       exact S.tw j hj e
   · have e := Iv.Gh.setM_m G i m' (fun j => if j = n then G.c i n + 1 else G.c i j) (j := 3) (by omega)
     show TbV w' (K.tr 3) K.n1 ((G.setM i m' (fun j => if j = n then G.c i n + 1 else G.c i j)).m 3) ((G.setM i m' (fun j => if j = n then G.c i n + 1 else G.c i j)).c 3) G.vv
     rw [e.1, e.2]
     exact S.tv (by omega)
   · show w'.ownsRow w0.heap.size 3 1 ((if j = i then updV (G.wv i) n (.int .i64 (a : Nat)) (.slice A N c) else G.wv j) m (.int .i64 (k : Nat))) _ _
     by_cases e : j = i ∧ m = n ∧ k = a
     · rw [eW e, eS e, ← hN]; exact hv'
     · rw [nW e, nS e]; exact S.hw j m k hj hm e
   · rcases h.om2 hi4 Nn hj hl hy with h1 | h1
     · by_cases e : (if j = i then m' else G.m j) l = G.m j l
       · exact hO1 y h1 (nm y j l hj hl (by rw [← e]; exact hy))
       · by_cases e1 : j = i
         · by_cases e2 : l = n
           · have hy2 : (if j = i then m' else G.m j) l = some y := hy
             rw [if_pos e1, e2] at hy2
             exact hO2 y hy2
           · exact absurd (by rw [if_pos e1, hm1 l e2, e1]) e
         · exact absurd (by rw [if_neg e1]) e
     · exact hO2 y h1
   · have hy : ((if j = i then updV (G.wv i) n (.int .i64 (a : Nat)) (.slice A N c) else G.wv j) m (.int .i64 (k : Nat))).ownBlock = some y := hy
     by_cases e : j = i ∧ m = n ∧ k = a
     · rw [eW e, hg0] at hy
       injection hy with hy
       rw [← hy]; exact hO3
     · rw [nW e] at hy
       exact hO1 y (h.ow j m k y hj hm hy) (fun hy2 => e (h.winj j m k i n a y hj hi hm hn hy hy2))
   · have hy : ((if j = i then updV (G.wv i) n (.int .i64 (a : Nat)) (.slice A N c) else G.wv j) m (.int .i64 (k : Nat))).ownBlock = some y := hy
     have hy' : ((if j' = i then updV (G.wv i) n (.int .i64 (a : Nat)) (.slice A N c) else G.wv j') m' (.int .i64 (k' : Nat))).ownBlock = some y := hy'
     have key : ∀ {j m k : Nat}, j = 1 ∨ j = 2 → m < K.n1 → ¬ (j = i ∧ m = n ∧ k = a) → (G.wv j m (.int .i64 (k : Nat))).ownBlock = some y → g0 = y → False := fun {j m k} hj hm hne hb e0 => by
       rcases hg g0 hg0 with h1 | ⟨h1, -⟩
       · exact hne (h.winj j m k i n a y hj hi hm hn hb (e0 ▸ h1))
       · have := (own_lt2 (h.hw j m k hj hm) hb); omega
     by_cases e : j = i ∧ m = n ∧ k = a
     · by_cases e' : j' = i ∧ m' = n ∧ k' = a
       · omega
       · rw [eW e, hg0] at hy
         injection hy with hy
         rw [nW e'] at hy'
         exact (key hj' hm' e' hy' hy).elim
     · rw [nW e] at hy
       by_cases e' : j' = i ∧ m' = n ∧ k' = a
       · rw [eW e', hg0] at hy'
         injection hy' with hy'
         exact (key hj hm e hy hy').elim
       · rw [nW e'] at hy'
         exact h.winj j m k j' m' k' y hj hj' hm hm' hy hy'
   · have h1 := h.pb m hm
     show (s.pd m).length ≤ bump s.k i 4
     unfold bump
     rw [if_neg (by omega)]
     exact h1
 · have hsz := f.size
   by_cases hcase : 0 < n2 ∧ ∃ y, A2 = some ⟨y, 0, none⟩ ∧ (G.wv i n (.int .i64 (a : Nat))).ownBlock = some y
   · obtain ⟨h0, y, rfl, hy⟩ := hcase
     have hys : ¬ SafeB O w y := fun hs2 => hs2.2 (h.ow i n a y hi hn hy)
     have hex : ∃ r, s.ls i n a = l ++ r := by
       rcases hs.2 h0 _ rfl with h1 | ⟨g, j, m, k, e1, hj, hm, hgk, r, hr⟩
       · exact absurd h1 hys
       · injection e1 with e1 _ _
         subst e1
         obtain ⟨rfl, rfl, rfl⟩ := h.winj j m k i n a y hj hi hm hn hgk hy
         exact ⟨r, hr⟩
     obtain ⟨r, hr⟩ := hex
     rcases hg g0 hg0 with h1 | ⟨h1, h2⟩
     · -- in place
       rw [hy] at h1
       injection h1 with h1
       subst h1
       obtain ⟨A3, c3, hv3, hin, -⟩ := Ints.of_own hv'
       injection hv3 with hA3 _ _
       subst hA3
       rcases hv.2 with ⟨h5, -⟩ | ⟨g, cap, cur, h5, _⟩
       · rw [h5] at hg0; cases hg0
       injection h5 with h5 _ _
       have h6 : g = y := by rw [h5] at hg0; injection hg0
       subst h6
       subst h5
       have hlen : l.length = n2 := by have := hs.1.1; simpa [ofNats] using this
       have hnN : n2 ≤ N := by rw [hN, hr]; simp; omega
       obtain ⟨b2, o2, e2, hl2, hc2⟩ := hin.2 (by omega)
       injection e2 with e2
       injection e2 with e2 e3 _
       subst e2 e3
       refine ⟨⟨hs.1.1, fun _ => ⟨g, 0, rfl, hl2, fun j hj => ?_⟩⟩, fun _ a2 ha2 => .inr ⟨g, i, n, a, by injection ha2 with ha2; exact ha2.symm, hi, hn, ?_, r ++ [x], by rw [eS ⟨rfl, rfl, rfl⟩, hr]; simp⟩⟩
       · rw [hc2 j (by omega)]
         congr 2
         rw [hr]
         unfold gi ofNats
         simp only [List.map_append, List.append_assoc, List.getD_eq_getElem?_getD]
         rw [List.getElem?_append_left (by simpa using (by omega : j < l.length))]
       · show ((if i = i then updV (G.wv i) n (.int .i64 (a : Nat)) (.slice (some ⟨g, 0, none⟩) N c) else G.wv i) n (.int .i64 (a : Nat))).ownBlock = some g
         rw [if_pos rfl, updV_at]; rfl
     · -- a new block: the old one stays as it is
       have hyl : y < w.heap.size := own_lt2 (h.hw i n a hi hn) hy
       have hyX : y ∉ K.tr i :: (G.m i n).toList := fun hm => by
         have ht := own_tag (h.hw i n a hi hn) hy
         rcases List.mem_cons.1 hm with h3 | h3
         · exact ht.ne (h.rtag hi4) (nt hi4).symm h3
         · exact ht.ne_map (h.mobj hi4 hn (by simpa using h3)) rfl
       have hbl : w'.heap[y]? = w.heap[y]? := (hk.block y (by omega) hyX).trans (h2.block y hyl (by simp))
       refine ⟨hs.1.same hsz (fun a2 _ ha2 _ => by injection ha2 with ha2; subst ha2; exact hbl), fun _ a2 ha2 => .inl ?_⟩
       injection ha2 with ha2
       subst ha2
       refine ⟨by show y < _; omega, fun ho => ?_⟩
       rw [hO'] at ho
       rcases ho with (h3 | h3) | h3
       · exact h3.2 hy
       · rcases Nn.new h3 with h4 | h4
         · exact nm y i n hi4 hn h4 hy
         · have h4 : w.heap.size ≤ y := h4
           omega
       · have h3 : g0 = y := h3
         omega
   · -- another list
     refine ⟨hs.1.same hsz (fun a2 h0 ha2 hl2 => ?_), fun h0 a2 ha2 => ?_⟩
     · rcases hs.2 h0 a2 ha2 with h1 | ⟨g, j, m, k, rfl, hj, hm, hgk, -⟩
       · exact f.blk _ h1.1 h1.2
       · refine hk2.block g hl2 (h.nXl hi4 hn hj hm hL hgk (fun e => hcase ⟨h0, g, ha2, ?_⟩))
         obtain ⟨rfl, rfl, rfl⟩ := e
         exact hgk
     · rcases hs.2 h0 a2 ha2 with h1 | ⟨g, j, m, k, rfl, hj, hm, hgk, r, hr⟩
       · exact .inl (h1.fx f)
       · have e : ¬ (j = i ∧ m = n ∧ k = a) := fun e => hcase ⟨h0, g, ha2, by
           obtain ⟨rfl, rfl, rfl⟩ := e
           exact hgk⟩
         refine .inr ⟨g, j, m, k, rfl, hj, hm, ?_, r, by rw [nS e]; exact hr⟩
         show ((if j = i then updV (G.wv i) n (.int .i64 (a : Nat)) (.slice A N c) else G.wv j) m (.int .i64 (k : Nat))).ownBlock = some g
         rw [nW e]; exact hgk
end
end Go.Proofs.YtincpmdldpakkaaDoor
namespace Go.Proofs.YtincpmdldpakkaaDoor
open Go.RowKit Go.Df Go.Df.Iv Go.Df.Sp
section
variable {p : Vb} {K : Kn} {w0 : World} {b : Nat} {O O' : Nat → Prop} {G : Gh} {w w' : World} {s : St}
structure Side2 (p : Vb) (K : Kn) (w0 : World) (O' : Nat → Prop) (G : Gh) (w' : World) (s : St) : Prop where
 stat : Stat p K w0 O' w'
 tj : TbX w' (K.tr 0) K.n1 (G.m 0) (G.c 0) G.jv
 tw : ∀ j, j = 1 ∨ j = 2 → TbL w' (K.tr j) K.n1 (G.m j) (G.c j) (G.wv j)
 tv : TbV w' (K.tr 3) K.n1 (G.m 3) (G.c 3) G.vv
 hw : ∀ j m c, j = 1 ∨ j = 2 → m < K.n1 → w'.ownsRow w0.heap.size 3 1 (G.wv j m (.int .i64 (c : Nat))) (s.ls j m c).length ((ofNats (s.ls j m c)).map (Value.int .i64))
 rank : SIn w' G.rA 0 G.rc []
theorem Mem.side2 (h : Mem p K w0 b O G w s) {X : List Nat} (hk : Kept X w w') (f : Fx O O' w w') (hX : ∀ y ∈ X, Tag w y 95 ∨ Tag w y 45 ∨ Tag w y 48) : Side2 p K w0 O' G w' s := by
 have key : ∀ {y : Nat} {t : TypeId}, Tag w y t → t ≠ 95 → t ≠ 45 → t ≠ 48 → y ∉ X := fun ht h1 h2 h3 hm => by
   rcases hX _ hm with h4 | h4 | h4
   · exact ht.ne h4 h1 rfl
   · exact ht.ne h4 h2 rfl
   · exact ht.ne h4 h3 rfl
 have kr : ∀ {j : Nat}, j < 4 → K.tr j ∉ X := fun hj => key (h.rtag hj) (by unfold rowT; (repeat' split) <;> decide) (by unfold rowT; (repeat' split) <;> decide) (by unfold rowT; (repeat' split) <;> decide)
 have km : ∀ {j l x : Nat}, j < 4 → l < K.n1 → G.m j l = some x → x ∉ X := fun hj hl hx hm => by
   rcases hX _ hm with h4 | h4 | h4 <;> exact h4.ne_map (h.mobj hj hl hx) rfl
 exact ⟨h.stat.fx f (fun x hx => (h.og x hx).1), h.tj.kept hk (kr (by omega)) (fun m x hm hx => km (by omega) hm hx), fun j hj => (h.tw j hj).kept hk (kr (by omega)) (fun m x hm hx => km (by omega) hm hx), h.tv.kept hk (kr (by omega)) (fun m x hm hx => km (by omega) hm hx),
   fun j m c hj hm => own_kept2 (h.hw j m c hj hm) hk (fun g hg => key (own_tag (h.hw j m c hj hm) hg) (by decide) (by decide) (by decide)), h.rank.keptX hk (fun h0 => by omega)⟩
theorem Mem.snap2 (h : Mem p K w0 b O G w s) {X : List Nat} (hk : Kept X w w') (f : Fx O O' w w') (hX : ∀ y ∈ X, Tag w y 95 ∨ Tag w y 45 ∨ Tag w y 48) {G' : Gh} {s' : St} (hG : G'.wv = G.wv) (hs : s'.ls = s.ls) : Fy K O O' G G' s s' w w' := by
 refine ⟨f, fun A n l hn => hn.same f (fun g i m c hi hm hg => hk.block g (own_lt2 (h.hw i m c hi hm) hg) (fun hx => ?_)) (fun _ _ _ _ _ => by rw [hG]) (fun _ _ _ => by rw [hs])⟩
 have ht := own_tag (h.hw i m c hi hm) hg
 rcases hX _ hx with h4 | h4 | h4
 · exact ht.ne h4 (by decide) rfl
 · exact ht.ne h4 (by decide) rfl
 · exact ht.ne h4 (by decide) rfl
theorem Mem.set_queue {q : List Nat} {rA qA : Option Addr} {rc qn qc : Nat} (h : Mem p K w0 b O G w s) (hq : SInO O w qA qn qc (ofNats q)) (hr : SIn w rA 0 rc []) :
   Mem p K w0 b O { G with qA := qA, qn := qn, qc := qc, rA := rA, rc := rc } ((w.setCell ⟨b, 18, none⟩ (.slice rA 0 rc)).setCell ⟨b, 19, none⟩ (.slice qA qn qc)) (s.setQ q) ∧ Fy K O O G { G with qA := qA, qn := qn, qc := qc, rA := rA, rc := rc } s (s.setQ q) w ((w.setCell ⟨b, 18, none⟩ (.slice rA 0 rc)).setCell ⟨b, 19, none⟩ (.slice qA qn qc)) := by
 have hk : Kept [b] w ((w.setCell ⟨b, 18, none⟩ (.slice rA 0 rc)).setCell ⟨b, 19, none⟩ (.slice qA qn qc)) := ((Kept.refl [b] w).set b 18 _ (.inl (by simp))).set b 19 _ (.inl (by simp))
 have f : Fx O O w ((w.setCell ⟨b, 18, none⟩ (.slice rA 0 rc)).setCell ⟨b, 19, none⟩ (.slice qA qn qc)) := Fx.of hk (by intro x hx; simp at hx; subst hx; exact .inl h.ob) (fun _ h => .inl h)
 have hB := (h.box.set 18 (.slice rA 0 rc)).set 19 (.slice qA qn qc)
 have hT := (h.btag.set b 18 (.slice rA 0 rc)).set b 19 (.slice qA qn qc)
 obtain ⟨w2, hw2⟩ : ∃ w2, w2 = (w.setCell ⟨b, 18, none⟩ (.slice rA 0 rc)).setCell ⟨b, 19, none⟩ (.slice qA qn qc) := ⟨_, rfl⟩
 rw [← hw2] at hk f hB hT ⊢
 have hX : ∀ y ∈ [b], Tag w y 95 ∨ Tag w y 45 ∨ Tag w y 48 := by intro y hy; simp at hy; subst hy; exact .inl h.btag
 have S := h.side2 hk f hX
 have kp : K.pr ∉ [b] := by simpa using h.ptag.ne h.btag (by decide)
 refine ⟨?_, h.snap2 hk f hX rfl rfl⟩
 exact { h with low := S.stat.low, og := fun x hx => ⟨(h.og x hx).1, Nat.lt_of_lt_of_le (h.og x hx).2 f.size⟩, box := hB, btag := hT, start := S.stat.start, out := S.stat.out, calls := S.stat.calls, leav := S.stat.leav, rets := S.stat.rets, seeds := S.stat.seeds, entr := S.stat.entr, entO := S.stat.entO, ents := S.stat.ents, tj := S.tj, tw := S.tw, tv := S.tv, hw := S.hw, prow := fun m hm => (hk.cell K.pr m h.ptag.lt kp).trans (h.prow m hm), ptag := h.ptag.same (hk.block _ h.ptag.lt kp), pown := fun m hm => own_kept2 (h.pown m hm) hk (fun g hg => by simpa using (own_tag (h.pown m hm) hg).ne h.btag (by decide)), queue := hq.fx f, rank := ⟨⟨rfl, fun h => absurd h (by omega)⟩, hr.2⟩ }
theorem Mem.set_pend {n : Nat} {l : List (Nat × Nat)} {v : Value} {w1 : World} (h : Mem p K w0 b O G w s) (hn : n < K.n1) (hk1 : Kept (G.pv n).ownBlock.toList w w1) (hv : w1.ownsRow w0.heap.size 48 2 v l.length (pcells l))
   (hg : ∀ g, v.ownBlock = some g → (G.pv n).ownBlock = some g ∨ w.heap.size ≤ g) (hl : l.length ≤ s.k 4 + 1) :
   ∃ O' G', Mem p K w0 b O' G' (w1.setCell ⟨K.pr, n, none⟩ v) (s.setP n l) ∧ Fy K O O' G G' s (s.setP n l) w (w1.setCell ⟨K.pr, n, none⟩ v) ∧ ∀ x, O' x → ((G.pv n).ownBlock = some x → v.ownBlock = some x) := by
 have hprw : K.pr < w.heap.size := h.ptag.lt
 have tP : ∀ g, (G.pv n).ownBlock = some g → Tag w g 48 := fun g hg' => own_tag (h.pown n hn) hg'
 have nP : ∀ g, (G.pv n).ownBlock = some g → g ≠ K.pr := fun g hg' => (tP g hg').ne h.ptag (by decide)
 have pN : K.pr ∉ (G.pv n).ownBlock.toList := fun hm => nP K.pr (by simpa using hm) rfl
 have hk : Kept (K.pr :: (G.pv n).ownBlock.toList) w (w1.setCell ⟨K.pr, n, none⟩ v) := (keptWide hk1 (fun x hx => List.mem_cons_of_mem _ hx)).set K.pr n v (.inl (by simp))
 have hXm : ∀ y, y ∈ K.pr :: (G.pv n).ownBlock.toList → y = K.pr ∨ (G.pv n).ownBlock = some y := fun y hy => by
   rcases List.mem_cons.1 hy with h2 | h2
   · exact .inl h2
   · exact .inr (by simpa using h2)
 have nX : ∀ y, y ≠ K.pr → (∀ z, (G.pv n).ownBlock = some z → y ≠ z) → y ∉ K.pr :: (G.pv n).ownBlock.toList := fun y h1 h2 hy => by
   rcases hXm y hy with h3 | h3
   · exact h1 h3
   · exact h2 y h3 rfl
 have hvP : ∀ g, v.ownBlock = some g → g ≠ K.pr := fun g hg' => by
   rcases hg g hg' with h2 | h2
   · exact nP g h2
   · omega
 have hX : ∀ y ∈ K.pr :: (G.pv n).ownBlock.toList, Tag w y 95 ∨ Tag w y 45 ∨ Tag w y 48 := fun y hy => by
   rcases hXm y hy with rfl | h2
   · exact .inr (.inl h.ptag)
   · exact .inr (.inr (tP y h2))
 have f : Fx O (fun x => (O x ∧ (G.pv n).ownBlock ≠ some x) ∨ v.ownBlock = some x) w (w1.setCell ⟨K.pr, n, none⟩ v) := Fx.of hk (fun x hx => by
   rcases hXm x hx with rfl | h2
   · exact .inl h.opr
   · exact .inl (h.opv n x hn h2)) (fun x hx => by
   rcases hx with hx | hx
   · exact .inl hx.1
   · rcases hg x hx with h2 | h2
     · exact .inl (h.opv n x hn h2)
     · exact .inr h2)
 have S := h.side2 hk f hX
 have hpr1 : w1.cell? ⟨K.pr, n, none⟩ = some (G.pv n) := (hk1.cell K.pr n hprw pN).trans (h.prow n hn)
 have hkS : Kept [K.pr] w1 (w1.setCell ⟨K.pr, n, none⟩ v) := (Kept.refl [K.pr] w1).set K.pr n v (.inl (by simp))
 have tO : ∀ x t, O x → Tag w x t → t ≠ 48 → (O x ∧ (G.pv n).ownBlock ≠ some x) ∨ v.ownBlock = some x := fun x t h1 h2 h3 => .inl ⟨h1, fun e => h2.ne (tP x e) h3 rfl⟩
 have mO : ∀ x, O x → (∃ es cl, w.heap[x]? = some (.map es cl)) → (O x ∧ (G.pv n).ownBlock ≠ some x) ∨ v.ownBlock = some x := fun x h1 h2 => .inl ⟨h1, fun e => (tP x e).ne_map h2 rfl⟩
 refine ⟨fun x => (O x ∧ (G.pv n).ownBlock ≠ some x) ∨ v.ownBlock = some x, { G with pv := fun i => if i = n then v else G.pv i }, ?_, h.snap2 hk f hX rfl rfl, fun x hx hx2 => ?_⟩
 · refine { h with low := S.stat.low, og := ?_, ob := tO b _ h.ob h.btag (by decide), box := hk.blk (nX b (h.btag.ne h.ptag (by decide)) (fun z hz => h.btag.ne (tP z hz) (by decide))) h.box, btag := h.btag.same (hk.block b h.btag.lt (nX b (h.btag.ne h.ptag (by decide)) (fun z hz => h.btag.ne (tP z hz) (by decide)))), start := S.stat.start, out := S.stat.out, calls := S.stat.calls, leav := S.stat.leav, rets := S.stat.rets, seeds := S.stat.seeds, entr := S.stat.entr, entO := S.stat.entO, ents := S.stat.ents, tj := S.tj, tw := S.tw, tv := S.tv, hw := S.hw, otr := fun j hj => tO _ _ (h.otr j hj) (h.rtag hj) (by unfold rowT; (repeat' split) <;> decide), opr := tO _ _ h.opr h.ptag (by decide), om := fun j l x hj hl hx => mO x (h.om j l x hj hl hx) (h.mobj hj hl hx), ow := fun j m c x hj hm hx => tO x _ (h.ow j m c x hj hm hx) (own_tag (h.hw j m c hj hm) hx) (by decide), opv := ?_, prow := ?_, ptag := (h.ptag.same (hk1.block _ hprw pN)).set K.pr n v, pown := ?_, dpp := ?_, queue := h.queue.fx f, rank := S.rank, cb := fun i m hi hm => ?_, pb := ?_ }
   · intro x hx
     rcases hx with hx | hx
     · exact ⟨(h.og x hx.1).1, Nat.lt_of_lt_of_le (h.og x hx.1).2 f.size⟩
     · have h1 := own_lt2 hv hx
       refine ⟨?_, by simpa [World.setCell] using h1⟩
       rcases hg x hx with h2 | h2
       · exact (h.og x (h.opv n x hn h2)).1
       · have := h.low.size; omega
   · intro i x hi hx
     by_cases e : i = n
     · subst e
       simp only [if_true] at hx
       exact .inr hx
     · simp only [if_neg e] at hx
       exact .inl ⟨h.opv i x hi hx, fun e2 => e (h.dpp i n x hi hn hx e2)⟩
   · intro i hi
     by_cases e : i = n
     · subst e
       simp only [if_true]
       exact set_same hpr1
     · simp only [if_neg e]
       rw [set_other (.inr (fun h => e h.symm))]
       exact (hk1.cell K.pr i hprw pN).trans (h.prow i hi)
   · intro i hi
     by_cases e : i = n
     · subst e
       have : (s.setP i l).pd i = l := if_pos rfl
       simp only [if_true, this]
       exact own_kept2 hv hkS (fun g hg' => by simpa using hvP g hg')
     · have : (s.setP n l).pd i = s.pd i := if_neg e
       simp only [if_neg e, this]
       exact own_kept2 (h.pown i hi) hk (fun g hg' => nX g ((own_tag (h.pown i hi) hg').ne h.ptag (by decide)) (fun z hz e2 => e (h.dpp i n g hi hn hg' (e2 ▸ hz))))
   · intro i j x hi hj hx hy
     by_cases e : i = n
     · by_cases e' : j = n
       · omega
       · subst e
         simp only [if_true] at hx
         simp only [if_neg e'] at hy
         rcases hg x hx with h2 | h2
         · exact h.dpp i j x hi hj h2 hy
         · have := (h.og x (h.opv j x hj hy)).2; omega
     · simp only [if_neg e] at hx
       by_cases e' : j = n
       · subst e'
         simp only [if_true] at hy
         rcases hg x hy with h2 | h2
         · exact h.dpp i j x hi hj hx h2
         · have := (h.og x (h.opv i x hi hx)).2; omega
       · simp only [if_neg e'] at hy
         exact h.dpp i j x hi hj hx hy
   · have h1 := h.cb i m hi hm
     show G.c i m ≤ bump s.k 4 i
     unfold bump
     rw [if_neg (by omega)]
     exact h1
   · intro i hi
     have h1 := h.pb i hi
     show (if i = n then l else s.pd i).length ≤ bump s.k 4 4
     unfold bump
     rw [if_pos rfl]
     split
     · exact hl
     · omega
 · rcases hx with hx | hx
   · exact absurd hx2 hx.2
   · exact hx
end
end Go.Proofs.YtincpmdldpakkaaDoor
