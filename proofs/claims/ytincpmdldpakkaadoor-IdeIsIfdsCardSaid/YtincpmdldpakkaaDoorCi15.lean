/- Texts: Ck Bk Bl. -/
import Derived.Test.YtincpmdldpakkaaDoorCi11
import Derived.Test.YtincpmdldpakkaaDoorCi14
namespace Go.Df
open Go.RowKit
def IntA (w : World) (g n : Nat) (f : Nat → Nat) : Prop := g < w.heap.size ∧ (∀ x, x < n → w.cell? ⟨g, x, none⟩ = some (.int .i64 (f x : Nat))) ∧ ∀ x, w.frozen? ⟨g, x, none⟩ = false
theorem IntA.kept {X : List Nat} {w w' : World} {g n : Nat} {f : Nat → Nat} (h : IntA w g n f) (hk : Kept X w w') (hX : g ∉ X) : IntA w' g n f :=
 ⟨Nat.lt_of_lt_of_le h.1 hk.size, fun x hx => (hk.cell g x h.1 hX).trans (h.2.1 x hx), fun x => (hk.frozen g x h.1 hX).trans (h.2.2 x)⟩
theorem IntA.set {w : World} {g n : Nat} {f : Nat → Nat} (h : IntA w g n f) (i y : Nat) {f' : Nat → Nat} (hf : ∀ x, x < n → f' x = if x = i then y else f x) : IntA (w.setCell ⟨g, i, none⟩ (.int .i64 (y : Nat))) g n f' := by
 refine ⟨by simpa [World.setCell] using h.1, fun x hx => ?_, fun x => by simpa using h.2.2 x⟩
 rw [hf x hx]
 by_cases e : x = i
 · subst e; rw [if_pos rfl]; exact set_same (h.2.1 x hx)
 · rw [if_neg e, set_other (.inr (fun h => e h.symm))]; exact h.2.1 x hx
open Classical in
noncomputable def upd2 {α : Type} (f : Nat → Nat → α) (t i : Nat) (x : α) : Nat → Nat → α := fun t' i' => if t' = t ∧ i' = i then x else f t' i'
theorem upd2_at {α : Type} (f : Nat → Nat → α) (t i : Nat) (x : α) : upd2 f t i x t i = x := by simp [upd2]
theorem upd2_ne {α : Type} {f : Nat → Nat → α} {t i t' i' : Nat} {x : α} (h : ¬ (t' = t ∧ i' = i)) : upd2 f t i x t' i' = f t' i' := by simp [upd2, h]
def rsel5 (a b c d e : Nat) (t : Nat) : Nat := match t with
 | 0 => a
 | 1 => b
 | 2 => c
 | 3 => d
 | _ => e
section
structure Rg (e : Nat → TypeId) (sz : Nat → Nat) (lim : Nat) (w : World) (r : Nat → Nat) (N : Nat) (v : Nat → Nat → Value) (n : Nat → Nat → Nat) (l : Nat → Nat → List Value) : Prop where
 cell : ∀ t i, t < 5 → i < N → w.cell? ⟨r t, i, none⟩ = some (v t i)
 fr : ∀ t i, t < 5 → w.frozen? ⟨r t, i, none⟩ = false
 rlt : ∀ t, t < 5 → r t < lim
 hlim : lim ≤ w.heap.size
 rr : ∀ t t', t < 5 → t' < 5 → r t = r t' → t = t'
 own : ∀ t i, t < 5 → i < N → w.ownsRow lim (e t) (sz t) (v t i) (n t i) (l t i)
 vv : ∀ t i t' i' x, t < 5 → t' < 5 → i < N → i' < N → (v t i).ownBlock = some x → (v t' i').ownBlock = some x → t = t' ∧ i = i'
variable {e : Nat → TypeId} {sz : Nat → Nat} {lim : Nat} {w w1 : World} {r : Nat → Nat} {N : Nat} {v : Nat → Nat → Value} {n : Nat → Nat → Nat} {l : Nat → Nat → List Value}
theorem Rg.kept {X : List Nat} (h : Rg e sz lim w r N v n l) (hk : Kept X w w1) (hX : ∀ x ∈ X, x < lim ∧ ∀ t, t < 5 → x ≠ r t) : Rg e sz lim w1 r N v n l := by
 have hr : ∀ t, t < 5 → r t ∉ X := fun t ht hm => (hX _ hm).2 t ht rfl
 have hrl : ∀ t, t < 5 → r t < w.heap.size := fun t ht => Nat.lt_of_lt_of_le (h.rlt t ht) h.hlim
 exact ⟨fun t i ht hi => (hk.cell (r t) i (hrl t ht) (hr t ht)).trans (h.cell t i ht hi), fun t i ht => (hk.frozen (r t) i (hrl t ht) (hr t ht)).trans (h.fr t i ht), h.rlt, Nat.le_trans h.hlim hk.size, h.rr,
   fun t i ht hi => own_kept2 (h.own t i ht hi) hk (fun g hg hm => by have h1 := own_ge (h.own t i ht hi) hg; have h2 := (hX g hm).1; omega), h.vv⟩
theorem Rg.snoc {t i : Nat} {v' : Value} {n' : Nat} {l' : List Value} (h : Rg e sz lim w r N v n l) (ht : t < 5) (hi : i < N) (hk : Kept (v t i).ownBlock.toList w w1) (hv : w1.ownsRow lim (e t) (sz t) v' n' l')
   (hg : ∀ g, v'.ownBlock = some g → (v t i).ownBlock = some g ∨ w.heap.size ≤ g) : Rg e sz lim (w1.setCell ⟨r t, i, none⟩ v') r N (upd2 v t i v') (upd2 n t i n') (upd2 l t i l') := by
 have hrl : ∀ t, t < 5 → r t < w.heap.size := fun t ht => Nat.lt_of_lt_of_le (h.rlt t ht) h.hlim
 have hvr : ∀ t' i' g, t' < 5 → i' < N → (v t' i').ownBlock = some g → ∀ t'', t'' < 5 → g ≠ r t'' := fun t' i' g ht' hi' hg' t'' ht'' e => by
   have h1 := own_ge (h.own t' i' ht' hi') hg'
   have h2 := h.rlt t'' ht''
   omega
 have hrn : ∀ t', t' < 5 → r t' ∉ (v t i).ownBlock.toList := fun t' ht' hm => hvr t i _ ht hi (by simpa using hm) t' ht' rfl
 have hk2 : Kept (r t :: (v t i).ownBlock.toList) w (w1.setCell ⟨r t, i, none⟩ v') := (keptWide hk (fun x hx => List.mem_cons_of_mem _ hx)).set (r t) i v' (.inl (by simp))
 have hv'r : ∀ g, v'.ownBlock = some g → g ≠ r t := fun g hg' => by
   rcases hg g hg' with h1 | h1
   · exact hvr t i g ht hi h1 t ht
   · have := hrl t ht; omega
 refine ⟨fun t' i' ht' hi' => ?_, fun t' i' ht' => ?_, h.rlt, Nat.le_trans h.hlim (by simpa [World.setCell] using hk.size), h.rr, fun t' i' ht' hi' => ?_, fun t1 i1 t2 i2 x h1 h2 h3 h4 h5 h6 => ?_⟩
 · have hc := (hk.cell (r t') i' (hrl t' ht') (hrn t' ht')).trans (h.cell t' i' ht' hi')
   by_cases e1 : t' = t ∧ i' = i
   · obtain ⟨rfl, rfl⟩ := e1
     rw [upd2_at]
     exact set_same hc
   · rw [upd2_ne e1, set_other]
     · exact hc
     · by_cases e2 : t' = t
       · right; intro e3; exact e1 ⟨e2, e3.symm⟩
       · left; intro e3; exact e2 (h.rr t' t ht' ht e3.symm)
 · have := (hk.frozen (r t') i' (hrl t' ht') (hrn t' ht')).trans (h.fr t' i' ht')
   simpa using this
 · by_cases e1 : t' = t ∧ i' = i
   · obtain ⟨rfl, rfl⟩ := e1
     rw [upd2_at, upd2_at, upd2_at]
     exact own_kept2 hv ((Kept.refl [r t'] w1).set (r t') i' v' (.inl (by simp))) (fun g hg' => by simpa using hv'r g hg')
   · rw [upd2_ne e1, upd2_ne e1, upd2_ne e1]
     refine own_kept2 (h.own t' i' ht' hi') hk2 (fun g hg' hm => ?_)
     rcases List.mem_cons.1 hm with h1 | h1
     · exact hvr t' i' g ht' hi' hg' t ht h1
     · exact e1 (h.vv t' i' t i g ht' ht hi' hi hg' (by simpa using h1))
 · by_cases e1 : t1 = t ∧ i1 = i
   · obtain ⟨rfl, rfl⟩ := e1
     rw [upd2_at] at h5
     by_cases e2 : t2 = t1 ∧ i2 = i1
     · exact ⟨e2.1.symm, e2.2.symm⟩
     · rw [upd2_ne e2] at h6
       rcases hg x h5 with h7 | h7
       · exact h.vv t1 i1 t2 i2 x h1 h2 h3 h4 h7 h6
       · have := own_lt2 (h.own t2 i2 h2 h4) h6; omega
   · rw [upd2_ne e1] at h5
     by_cases e2 : t2 = t ∧ i2 = i
     · obtain ⟨rfl, rfl⟩ := e2
       rw [upd2_at] at h6
       rcases hg x h6 with h7 | h7
       · exact h.vv t1 i1 t2 i2 x h1 h2 h3 h4 h5 h7
       · have := own_lt2 (h.own t1 i1 h1 h3) h5; omega
     · rw [upd2_ne e2] at h6
       exact h.vv t1 i1 t2 i2 x h1 h2 h3 h4 h5 h6
end
theorem blk_of_obj {w : World} {g : Nat} {C : List Value} {t : TypeId} (h : w.heap[g]? = some (.cells C.toArray t (0, 0))) : Blk w g C :=
 ⟨(Array.getElem?_eq_some_iff.1 h).1, fun i => by simp [World.cell?, h], fun i => by simp [World.frozen?, h]⟩
namespace Iv
open Sp
def prE (p : Vb) (t i k : Nat) : Bool :=
 match t with
 | 0 => (ge p.es k).a == (i : Int)
 | 1 => (ge p.es k).k == 2 && (ge p.es k).b == (i : Int)
 | 2 => (ge p.es k).k == 2 && If.stOf p.ns (ge p.es k).a.toNat == i
 | 3 => ((ge p.es k).k == 3 || (ge p.es k).k == 4) && (ge p.es k).c == (i : Int)
 | _ => false
def LE (p : Vb) (k t i : Nat) : List Nat := (List.range k).filter (prE p t i)
def SE (p : Vb) (j i : Nat) : List Vs := (p.sd.take j).filter fun s => s.n == (i : Int)
theorem LE_one (p : Vb) (k t i : Nat) : LE p (k + 1) t i = if prE p t i k = true then LE p k t i ++ [k] else LE p k t i := filter_one k
theorem upd2_app {L : Nat → Nat → List Nat} {t i t' i' k : Nat} : upd2 L t i (L t i ++ [k]) t' i' = if t' = t ∧ i' = i then L t' i' ++ [k] else L t' i' := by
 by_cases e : t' = t ∧ i' = i
 · rw [if_pos e]; obtain ⟨rfl, rfl⟩ := e; rw [upd2_at]
 · rw [if_neg e, upd2_ne e]
theorem beq_int (x i : Nat) : ((x : Int) == (i : Int)) = decide (i = x) := by
 by_cases e : i = x
 · subst e; simp
 · have : ¬ ((x : Int) = (i : Int)) := by omega
   simp [e, this]
theorem beq_nat (x i : Nat) : (x == i) = decide (i = x) := by
 by_cases e : i = x
 · subst e; simp
 · have : ¬ (x = i) := fun h => e h.symm
   simp [e, this]
theorem LE_call {p : Vb} {k ea eb st : Nat} (h2 : (ge p.es k).k = 2) (ha : (ge p.es k).a = (ea : Int)) (hb : (ge p.es k).b = (eb : Int)) (hs : If.stOf p.ns ea = st) {L1 L2 L3 : Nat → Nat → List Nat} (e1 : L1 = upd2 (LE p k) 0 ea (LE p k 0 ea ++ [k])) (e2 : L2 = upd2 L1 1 eb (L1 1 eb ++ [k])) (e3 : L3 = upd2 L2 2 st (L2 2 st ++ [k])) : LE p (k + 1) = L3 := by
 funext t i
 rw [LE_one, e3, upd2_app, e2, upd2_app, e1, upd2_app]
 match t with
 | 0 => simp [prE, ha, beq_int]
 | 1 => simp [prE, h2, hb, beq_int]
 | 2 => simp [prE, h2, ha, hs, beq_nat]
 | 3 => simp [prE, h2]
 | _ + 4 => simp [prE]
theorem LE_ret {p : Vb} {k ea ec : Nat} (h2 : (ge p.es k).k = 3 ∨ (ge p.es k).k = 4) (ha : (ge p.es k).a = (ea : Int)) (hc : (ge p.es k).c = (ec : Int)) {L1 L2 : Nat → Nat → List Nat} (e1 : L1 = upd2 (LE p k) 0 ea (LE p k 0 ea ++ [k])) (e2 : L2 = upd2 L1 3 ec (L1 3 ec ++ [k])) : LE p (k + 1) = L2 := by
 have h3 : (ge p.es k).k ≠ 2 := by omega
 funext t i
 rw [LE_one, e2, upd2_app, e1, upd2_app]
 match t with
 | 0 => simp [prE, ha, beq_int]
 | 1 => simp [prE, h3]
 | 2 => simp [prE, h3]
 | 3 => simp [prE, h2, hc, beq_int]
 | _ + 4 => simp [prE]
theorem LE_else {p : Vb} {k ea : Nat} (h2 : (ge p.es k).k ≠ 2) (h3 : (ge p.es k).k ≠ 3) (h4 : (ge p.es k).k ≠ 4) (ha : (ge p.es k).a = (ea : Int)) {L1 : Nat → Nat → List Nat} (e1 : L1 = upd2 (LE p k) 0 ea (LE p k 0 ea ++ [k])) : LE p (k + 1) = L1 := by
 funext t i
 rw [LE_one, e1, upd2_app]
 match t with
 | 0 => simp [prE, ha, beq_int]
 | 1 => simp [prE, h2]
 | 2 => simp [prE, h2]
 | 3 => simp [prE, h3, h4]
 | _ + 4 => simp [prE]
theorem LE_len (p : Vb) (k t i : Nat) : (LE p k t i).length ≤ k := by
 have h := List.length_filter_le (prE p t i) (List.range k)
 rw [List.length_range] at h
 exact h
def vcells (l : List Vs) : List Value := l.flatMap fun u => [.int .i64 u.n, .int .i64 u.f, .int .i64 u.k, .int .i64 u.v]
theorem vcells_snoc (l : List Vs) (u : Vs) : vcells (l ++ [u]) = vcells l ++ [.int .i64 u.n, .int .i64 u.f, .int .i64 u.k, .int .i64 u.v] := by simp [vcells]
def NKf (L : Nat → Nat → List Nat) (S : Nat → List Vs) (t i : Nat) : Nat := if t = 4 then (S i).length else (L t i).length
def CKf (L : Nat → Nat → List Nat) (S : Nat → List Vs) (t i : Nat) : List Value := if t = 4 then vcells (S i) else (ofNats (L t i)).map (Value.int .i64)
theorem NK_up {L : Nat → Nat → List Nat} {S : Nat → List Vs} {t i k : Nat} (ht : t < 4) : NKf (upd2 L t i (L t i ++ [k])) S = upd2 (NKf L S) t i ((L t i).length + 1) := by
 funext t' i'
 by_cases e : t' = t ∧ i' = i
 · obtain ⟨rfl, rfl⟩ := e
   rw [upd2_at]
   unfold NKf
   rw [if_neg (by omega), upd2_at, List.length_append]
   rfl
 · rw [upd2_ne e]
   unfold NKf
   rw [upd2_ne e]
theorem CK_up {L : Nat → Nat → List Nat} {S : Nat → List Vs} {t i k : Nat} (ht : t < 4) : CKf (upd2 L t i (L t i ++ [k])) S = upd2 (CKf L S) t i (CKf L S t i ++ [.int .i64 (k : Nat)]) := by
 funext t' i'
 by_cases e : t' = t ∧ i' = i
 · obtain ⟨rfl, rfl⟩ := e
   rw [upd2_at]
   unfold CKf
   rw [if_neg (by omega), if_neg (by omega), upd2_at, ofNats_snoc, List.map_append]
   rfl
 · rw [upd2_ne e]
   unfold CKf
   rw [upd2_ne e]
end Iv
end Go.Df
namespace Go.Df.Iv
open Go Go.RowKit Go.Df.Sp
def bump (k : Nat → Nat) (i : Nat) : Nat → Nat := fun j => if j = i then k j + 1 else k j
def St.setT (s : St) (n a d : Nat) (y : D) : St := ⟨s.put n a d y, s.ls, s.V, s.pd, s.q, bump s.k 0⟩
def St.addL (s : St) (i n a x : Nat) : St := ⟨s.T, fun i' n' a' => if i' = i ∧ n' = n ∧ a' = a then s.ls i n a ++ [x] else s.ls i' n' a', s.V, s.pd, s.q, bump s.k i⟩
def St.setV (s : St) (n a : Nat) (v : U) : St := ⟨s.T, s.ls, fun n' a' => if n' = n ∧ a' = a then v else s.V n' a', s.pd, s.q, bump s.k 3⟩
def St.setP (s : St) (n : Nat) (l : List (Nat × Nat)) : St := ⟨s.T, s.ls, s.V, fun n' => if n' = n then l else s.pd n', s.q, bump s.k 4⟩
def St.setQ (s : St) (q : List Nat) : St := ⟨s.T, s.ls, s.V, s.pd, q, s.k⟩
theorem inc_old {s : St} {n a d : Nat} {x : D} (h : meet (s.T n a d) x ≠ s.T n a d) (h0 : s.T n a d ≠ top) (q : List Nat) (hq : q = if s.pd n = [] then s.q ++ [n] else s.q) :
   s.inc n a d x = ((s.setT n a d (meet (s.T n a d) x)).setQ q).setP n (s.pd n ++ [(a, d)]) := by
 subst hq
 unfold St.inc St.setT St.setQ St.setP St.lst
 rw [if_neg h]
 congr 1
 · funext i n' a'
   rw [if_neg h0]
 · funext i
   unfold bump
   rw [if_neg h0]
   by_cases e1 : i = 1 ∨ i = 2
   · rw [if_pos e1]
     rcases e1 with rfl | rfl <;> simp
   · rw [if_neg e1]
     by_cases e2 : i = 0
     · subst e2; simp
     · by_cases e3 : i = 4
       · subst e3; simp
       · simp [e2, e3]
theorem inc_new {s : St} {n a d : Nat} {x : D} (h : meet (s.T n a d) x ≠ s.T n a d) (h0 : s.T n a d = top) (q : List Nat) (hq : q = if s.pd n = [] then s.q ++ [n] else s.q) :
   s.inc n a d x = ((((s.addL 1 n a d).addL 2 n d a).setT n a d (meet (s.T n a d) x)).setQ q).setP n (s.pd n ++ [(a, d)]) := by
 subst hq
 unfold St.inc St.setT St.setQ St.setP St.lst St.addL St.put
 rw [if_neg h]
 congr 1
 · funext i n' a'
   rw [if_pos h0]
   dsimp only
   by_cases e1 : i = 1 ∧ n' = n ∧ a' = a
   · rw [if_pos e1, if_neg (by omega), if_pos e1]
   · rw [if_neg e1]
     by_cases e2 : i = 2 ∧ n' = n ∧ a' = d
     · rw [if_pos e2, if_pos e2, if_neg (by omega)]
     · rw [if_neg e2, if_neg e2, if_neg e1]
 · funext i
   unfold bump
   rw [if_pos h0]
   by_cases e1 : i = 1
   · subst e1; simp
   · by_cases e2 : i = 2
     · subst e2; simp
     · by_cases e3 : i = 0
       · subst e3; simp
       · by_cases e4 : i = 4
         · subst e4; simp
         · simp [e1, e2, e3, e4]
end Go.Df.Iv
namespace Go.Proofs.YtincpmdldpakkaaDoor
open Go.RowKit Go.Df Go.Df.Iv Go.Df.Sp
def rowT (i : Nat) : TypeId := if i = 0 then 79 else if i = 3 then 145 else 173
section
variable {p : Vb} {K : Kn} {w0 : World} {b : Nat} {O O' : Nat → Prop} {G : Gh} {w w' : World} {s : St}
theorem Mem.rtag (h : Mem p K w0 b O G w s) {i : Nat} (hi : i < 4) : Tag w (K.tr i) (rowT i) := by
 have h4 : i = 0 ∨ i = 1 ∨ i = 2 ∨ i = 3 := by omega
 rcases h4 with rfl | rfl | rfl | rfl
 · exact h.tj.rtag
 · exact (h.tw 1 (.inl rfl)).rtag
 · exact (h.tw 2 (.inr rfl)).rtag
 · exact h.tv.rtag
theorem Mem.mobj (h : Mem p K w0 b O G w s) {i n x : Nat} (hi : i < 4) (hn : n < K.n1) (hx : G.m i n = some x) : ∃ es clock, w.heap[x]? = some (.map es clock) := by
 have h4 : i = 0 ∨ i = 1 ∨ i = 2 ∨ i = 3 := by omega
 rcases h4 with rfl | rfl | rfl | rfl
 · exact (h.tj.is n x hn hx).obj
 · exact ((h.tw 1 (.inl rfl)).is n x hn hx).obj
 · exact ((h.tw 2 (.inr rfl)).is n x hn hx).obj
 · exact (h.tv.is n x hn hx).obj
theorem rowT_ne {i j : Nat} (hi : i < 4) (hj : j < 4) (h : i ≠ j) (h12 : ¬ ((i = 1 ∨ i = 2) ∧ (j = 1 ∨ j = 2))) : rowT i ≠ rowT j := by
 have hi4 : i = 0 ∨ i = 1 ∨ i = 2 ∨ i = 3 := by omega
 have hj4 : j = 0 ∨ j = 1 ∨ j = 2 ∨ j = 3 := by omega
 rcases hi4 with rfl | rfl | rfl | rfl <;> rcases hj4 with rfl | rfl | rfl | rfl <;> first | (exact absurd rfl h) | (unfold rowT; decide) | (exact absurd ⟨by simp, by simp⟩ h12)
theorem Mem.trj (h : Mem p K w0 b O G w s) {i j : Nat} (hi : i < 4) (hj : j < 4) (hne : i ≠ j) : K.tr i ≠ K.tr j := by
 by_cases h12 : (i = 1 ∨ i = 2) ∧ (j = 1 ∨ j = 2)
 · obtain ⟨h1, h2⟩ := h12
   rcases h1 with rfl | rfl <;> rcases h2 with rfl | rfl
   · exact absurd rfl hne
   · exact h.trne
   · exact h.trne.symm
   · exact absurd rfl hne
 · exact (h.rtag hi).ne (h.rtag hj) (rowT_ne hi hj hne h12)
def OwnL (G : Gh) (i n a : Nat) (L : List Nat) : Prop := ∀ y ∈ L, (i = 1 ∨ i = 2) ∧ (G.wv i n (.int .i64 (a : Nat))).ownBlock = some y
theorem Mem.ltag (h : Mem p K w0 b O G w s) {i n a y : Nat} {L : List Nat} (hL : OwnL G i n a L) (hn : n < K.n1) (hy : y ∈ L) : Tag w y 3 := own_tag (h.hw i n a (hL y hy).1 hn) (hL y hy).2
theorem Mem.nX (h : Mem p K w0 b O G w s) {i n y : Nat} {t : TypeId} {L : List Nat} (hi : i < 4) (hn : n < K.n1) (ht : Tag w y t) (hy : y ≠ K.tr i) (hL : y ∉ L) : y ∉ K.tr i :: ((G.m i n).toList ++ L) := by
 intro hm
 rcases List.mem_cons.1 hm with h1 | h1
 · exact hy h1
 · rcases List.mem_append.1 h1 with h2 | h2
   · have h3 : G.m i n = some y := by simpa using h2
     exact ht.ne_map (h.mobj hi hn h3) rfl
   · exact hL h2
theorem Mem.nXt (h : Mem p K w0 b O G w s) {i n a y : Nat} {t : TypeId} {L : List Nat} (hi : i < 4) (hn : n < K.n1) (hL : OwnL G i n a L) (ht : Tag w y t) (h1 : t ≠ rowT i) (h2 : t ≠ 3) : y ∉ K.tr i :: ((G.m i n).toList ++ L) :=
 h.nX hi hn ht (ht.ne (h.rtag hi) h1) (fun hm => ht.ne (h.ltag hL hn hm) h2 rfl)
theorem Mem.nXm (h : Mem p K w0 b O G w s) {i n a j m y : Nat} {L : List Nat} (hi : i < 4) (hn : n < K.n1) (hj : j < 4) (hm : m < K.n1) (hL : OwnL G i n a L) (hy : G.m j m = some y) (hne : ¬ (j = i ∧ m = n)) : y ∉ K.tr i :: ((G.m i n).toList ++ L) := by
 intro hx
 rcases List.mem_cons.1 hx with h1 | h1
 · exact (h.rtag hi).ne_map (h.mobj hj hm hy) h1.symm
 · rcases List.mem_append.1 h1 with h2 | h2
   · have h3 : G.m i n = some y := by simpa using h2
     exact hne (h.minj j i m n y hj hi hm hn hy h3)
   · exact (h.ltag hL hn h2).ne_map (h.mobj hj hm hy) rfl
theorem Mem.nXl (h : Mem p K w0 b O G w s) {i n a j m c y : Nat} {L : List Nat} (hi : i < 4) (hn : n < K.n1) (hj : j = 1 ∨ j = 2) (hm : m < K.n1) (hL : OwnL G i n a L) (hy : (G.wv j m (.int .i64 (c : Nat))).ownBlock = some y) (hne : ¬ (j = i ∧ m = n ∧ c = a)) : y ∉ K.tr i :: ((G.m i n).toList ++ L) := by
 have ht := own_tag (h.hw j m c hj hm) hy
 refine h.nX hi hn ht (ht.ne (h.rtag hi) (by unfold rowT; (repeat' split) <;> decide)) (fun hx => hne ?_)
 have h1 := hL y hx
 exact h.winj j m c i n a y hj h1.1 hm hn hy h1.2
theorem Mem.oX (h : Mem p K w0 b O G w s) {i n a : Nat} {L : List Nat} (hi : i < 4) (hn : n < K.n1) (hL : OwnL G i n a L) : ∀ y ∈ K.tr i :: ((G.m i n).toList ++ L), O y := fun y hm => by
 rcases List.mem_cons.1 hm with rfl | h1
 · exact h.otr i hi
 · rcases List.mem_append.1 h1 with h2 | h2
   · exact h.om i n y hi hn (by simpa using h2)
   · exact h.ow i n a y (hL y h2).1 hn (hL y h2).2
structure Side (p : Vb) (K : Kn) (w0 : World) (b : Nat) (O' : Nat → Prop) (G : Gh) (w' : World) (s : St) (i n a : Nat) : Prop where
 stat : Stat p K w0 O' w'
 box : Blk w' b (sbox p K G)
 btag : Tag w' b 95
 tj : i ≠ 0 → TbX w' (K.tr 0) K.n1 (G.m 0) (G.c 0) G.jv
 tw : ∀ j, j = 1 ∨ j = 2 → j ≠ i → TbL w' (K.tr j) K.n1 (G.m j) (G.c j) (G.wv j)
 tv : i ≠ 3 → TbV w' (K.tr 3) K.n1 (G.m 3) (G.c 3) G.vv
 hw : ∀ j m c, j = 1 ∨ j = 2 → m < K.n1 → ¬ (j = i ∧ m = n ∧ c = a) → w'.ownsRow w0.heap.size 3 1 (G.wv j m (.int .i64 (c : Nat))) (s.ls j m c).length ((ofNats (s.ls j m c)).map (Value.int .i64))
 prow : ∀ m, m < K.n1 → w'.cell? ⟨K.pr, m, none⟩ = some (G.pv m)
 ptag : Tag w' K.pr 45
 pown : ∀ m, m < K.n1 → w'.ownsRow w0.heap.size 48 2 (G.pv m) (s.pd m).length (pcells (s.pd m))
 queue : SInO O' w' G.qA G.qn G.qc (ofNats s.q)
 rank : SIn w' G.rA 0 G.rc []
theorem Mem.side (h : Mem p K w0 b O G w s) {i n a : Nat} {L : List Nat} (hi : i < 4) (hn : n < K.n1) (hL : OwnL G i n a L) (hk : Kept (K.tr i :: ((G.m i n).toList ++ L)) w w') (f : Fx O O' w w') : Side p K w0 b O' G w' s i n a := by
 have hb := h.nXt hi hn hL h.btag (by unfold rowT; (repeat' split) <;> decide) (by decide)
 have hp := h.nXt hi hn hL h.ptag (by unfold rowT; (repeat' split) <;> decide) (by decide)
 have hrow : ∀ j, j < 4 → j ≠ i → K.tr j ∉ K.tr i :: ((G.m i n).toList ++ L) := fun j hj hne => h.nX hi hn (h.rtag hj) (h.trj hj hi hne) (fun hm => (h.rtag hj).ne (h.ltag hL hn hm) (by unfold rowT; (repeat' split) <;> decide) rfl)
 refine ⟨h.stat.fx f (fun x hx => (h.og x hx).1), hk.blk hb h.box, h.btag.same (hk.block b h.btag.lt hb), fun h0 => ?_, fun j hj hne => ?_, fun h3 => ?_, fun j m c hj hm hne => ?_, fun m hm => (hk.cell K.pr m h.ptag.lt hp).trans (h.prow m hm), h.ptag.same (hk.block _ h.ptag.lt hp), fun m hm => ?_, h.queue.fx f, ?_⟩
 · exact h.tj.kept hk (hrow 0 (by omega) (Ne.symm h0)) (fun m x hm hx => h.nXm hi hn (by omega) hm hL hx (fun e => h0 e.1.symm))
 · exact (h.tw j hj).kept hk (hrow j (by omega) hne) (fun m x hm hx => h.nXm hi hn (by omega) hm hL hx (fun e => hne e.1))
 · exact h.tv.kept hk (hrow 3 (by omega) (Ne.symm h3)) (fun m x hm hx => h.nXm hi hn (by omega) hm hL hx (fun e => h3 e.1.symm))
 · exact own_kept2 (h.hw j m c hj hm) hk (fun g hg => h.nXl hi hn hj hm hL hg hne)
 · refine own_kept2 (h.pown m hm) hk (fun g hg => ?_)
   have ht := own_tag (h.pown m hm) hg
   exact h.nXt hi hn hL ht (by unfold rowT; (repeat' split) <;> decide) (by decide)
 · exact h.rank.keptX hk (fun h0 => by omega)
structure NewM (G : Gh) (w w' : World) (i n : Nat) (m' : Nat → Option Nat) : Prop where
 old : ∀ l, l ≠ n → m' l = G.m i l
 at_ : m' n = G.m i n ∨ (G.m i n = none ∧ ∃ b, m' n = some b ∧ w.heap.size ≤ b)
 lt : ∀ x, m' n = some x → x < w'.heap.size
def _root_.Go.Df.Iv.Gh.setM (G : Gh) (i : Nat) (m' : Nat → Option Nat) (c' : Nat → Nat) : Gh := { G with m := fun j => if j = i then m' else G.m j, c := fun j => if j = i then c' else G.c j }
theorem NewM.new {i n : Nat} {m' : Nat → Option Nat} (hm : NewM G w w' i n m') {x : Nat} (hx : m' n = some x) : G.m i n = some x ∨ w.heap.size ≤ x := by
 rcases hm.at_ with h2 | ⟨-, y, h2, h3⟩
 · exact .inl (by rw [← h2]; exact hx)
 · rw [h2] at hx; injection hx with hx; exact .inr (by omega)
theorem Mem.om2 (h : Mem p K w0 b O G w s) {i n : Nat} {m' : Nat → Option Nat} (hi : i < 4) (hm : NewM G w w' i n m') {j l x : Nat} (hj : j < 4) (hl : l < K.n1) (hx : (if j = i then m' else G.m j) l = some x) : O x ∨ m' n = some x := by
 by_cases e : j = i
 · rw [if_pos e] at hx
   by_cases e2 : l = n
   · rw [e2] at hx; exact .inr hx
   · rw [hm.old l e2] at hx; exact .inl (h.om i l x hi hl hx)
 · rw [if_neg e] at hx; exact .inl (h.om j l x hj hl hx)
theorem Mem.minj2 (h : Mem p K w0 b O G w s) {i n : Nat} {m' : Nat → Option Nat} (hi : i < 4) (hn : n < K.n1) (hm : NewM G w w' i n m') {j l j' l' x : Nat} (hj : j < 4) (hj' : j' < 4) (hl : l < K.n1) (hl' : l' < K.n1)
   (hx : (if j = i then m' else G.m j) l = some x) (hx' : (if j' = i then m' else G.m j') l' = some x) : j = j' ∧ l = l' := by
 have key : ∀ {j l : Nat}, j < 4 → l < K.n1 → (if j = i then m' else G.m j) l = some x → G.m j l = some x ∨ (j = i ∧ l = n ∧ w.heap.size ≤ x) := fun {j l} hj hl hx => by
   by_cases e : j = i
   · rw [if_pos e] at hx
     by_cases e2 : l = n
     · rw [e2] at hx
       rcases hm.new hx with h1 | h1
       · left; rw [e, e2]; exact h1
       · exact .inr ⟨e, e2, h1⟩
     · rw [hm.old l e2] at hx; left; rw [e]; exact hx
   · rw [if_neg e] at hx; exact .inl hx
 have lt : ∀ {j l : Nat}, j < 4 → l < K.n1 → G.m j l = some x → x < w.heap.size := fun hj hl h1 => (h.og x (h.om _ _ x hj hl h1)).2
 rcases key hj hl hx with h1 | ⟨rfl, rfl, h1⟩
 · rcases key hj' hl' hx' with h2 | ⟨rfl, rfl, h2⟩
   · exact h.minj j j' l l' x hj hj' hl hl' h1 h2
   · have := lt hj hl h1; omega
 · rcases key hj' hl' hx' with h2 | ⟨rfl, rfl, h2⟩
   · have := lt hj' hl' h2; omega
   · exact ⟨rfl, rfl⟩
end
end Go.Proofs.YtincpmdldpakkaaDoor
namespace Go.Df
open Go.RowKit
theorem updV_ne {v : Nat → Value → Value} {n n' : Nat} {key key' x : Value} (h : ¬ (n' = n ∧ key' = key)) : updV v n key x n' key' = v n' key' := by unfold updV; rw [if_neg h]
theorem Ints.same {w w' : World} {A : Option Addr} {n : Nat} {l : List Int} (h : Ints w A n l) (hsz : w.heap.size ≤ w'.heap.size) (hs : ∀ a, 0 < n → A = some a → a.block < w.heap.size → w'.heap[a.block]? = w.heap[a.block]?) : Ints w' A n l :=
 ⟨h.1, fun hn => by
   obtain ⟨b, o, e, hl, hc⟩ := h.2 hn
   exact ⟨b, o, e, by omega, fun i hi => (World.cell?_of_block (w := w) (a := ⟨b, o + i, none⟩) (hs ⟨b, o, none⟩ hn e hl)).trans (hc i hi)⟩⟩
namespace Iv
theorem SnapL.same {K : Kn} {O O' : Nat → Prop} {G : Gh} {s : St} {w w' : World} {A : Option Addr} {n : Nat} {l : List Nat} (h : SnapL K O G s w A n l) (f : Fx O O' w w') (hb : ∀ g i m c, (i = 1 ∨ i = 2) → m < K.n1 → (G.wv i m (.int .i64 (c : Nat))).ownBlock = some g → w'.heap[g]? = w.heap[g]?) {G' : Gh} {s' : St}
   (hG : ∀ i m c, (i = 1 ∨ i = 2) → m < K.n1 → G'.wv i m (.int .i64 (c : Nat)) = G.wv i m (.int .i64 (c : Nat))) (hs : ∀ i m c, s'.ls i m c = s.ls i m c) : SnapL K O' G' s' w' A n l := by
 refine ⟨h.1.same f.size (fun a hn ha hl => ?_), fun hn a ha => ?_⟩
 · rcases h.2 hn a ha with h1 | ⟨g, i, m, c, rfl, hi, hm, hg, -⟩
   · exact f.blk _ h1.1 h1.2
   · exact hb g i m c hi hm hg
 · rcases h.2 hn a ha with h1 | ⟨g, i, m, c, e, hi, hm, hg, r, hr⟩
   · exact .inl (h1.fx f)
   · exact .inr ⟨g, i, m, c, e, hi, hm, by rw [hG i m c hi hm]; exact hg, r, by rw [hs]; exact hr⟩
theorem int_key {a a' : Nat} (h : Value.int .i64 (a : Nat) = Value.int .i64 (a' : Nat)) : a = a' := by injection h with _ h; omega
end Iv
end Go.Df
namespace Go.Proofs.YtincpmdldpakkaaDoor
open Go.RowKit Go.Df Go.Df.Iv Go.Df.Sp
section
variable {p : Vb} {K : Kn} {w0 : World} {b : Nat} {O O' : Nat → Prop} {G : Gh} {w w' : World} {s : St}
theorem _root_.Go.Df.Iv.Gh.setM_m (G : Gh) (i : Nat) (m' : Nat → Option Nat) (c' : Nat → Nat) {j : Nat} (h : j ≠ i) : (G.setM i m' c').m j = G.m j ∧ (G.setM i m' c').c j = G.c j := ⟨if_neg h, if_neg h⟩
theorem _root_.Go.Df.Iv.Gh.setM_at (G : Gh) (i : Nat) (m' : Nat → Option Nat) (c' : Nat → Nat) : (G.setM i m' c').m i = m' ∧ (G.setM i m' c').c i = c' := ⟨if_pos rfl, if_pos rfl⟩
theorem cb_up {i n N : Nat} {c : Nat → Nat → Nat} {k : Nat → Nat} (h : ∀ j l, j < 4 → l < N → c j l ≤ k j) (hi : i < 4) (hn : n < N) : ∀ j l, j < 4 → l < N → (if j = i then (fun x => if x = n then c i n + 1 else c i x) else c j) l ≤ bump k i j := fun j l hj hl => by
 have h1 := h j l hj hl
 have h2 := h i n hi hn
 unfold bump
 by_cases e : j = i
 · subst e
   rw [if_pos rfl, if_pos rfl]
   split
   · omega
   · omega
 · rw [if_neg e, if_neg e]; exact h1
def Oup (O : Nat → Prop) (m' : Nat → Option Nat) (n : Nat) : Nat → Prop := fun x => O x ∨ m' n = some x
theorem Mem.oup (h : Mem p K w0 b O G w s) {i n : Nat} {m' : Nat → Option Nat} (hi : i < 4) (hn : n < K.n1) (N : NewM G w w' i n m') : ∀ x, Oup O m' n x → O x ∨ w.heap.size ≤ x := fun x hx => by
 rcases hx with hx | hx
 · exact .inl hx
 · rcases N.new hx with h1 | h1
   · exact .inl (h.om i n x hi hn h1)
   · exact .inr h1
theorem Mem.ogup (h : Mem p K w0 b O G w s) {i n : Nat} {m' : Nat → Option Nat} (hi : i < 4) (hn : n < K.n1) (N : NewM G w w' i n m') (hsz : w.heap.size ≤ w'.heap.size) : ∀ x, Oup O m' n x → w0.heap.size ≤ x ∧ x < w'.heap.size := fun x hx => by
 rcases hx with hx | hx
 · have := h.og x hx; omega
 · refine ⟨?_, N.lt x hx⟩
   rcases N.new hx with h1 | h1
   · exact (h.og x (h.om i n x hi hn h1)).1
   · have := h.low.size; omega
theorem Mem.put_jump (h : Mem p K w0 b O G w s) {n a d : Nat} {y : D} {e : Ending} (hn : n < K.n1)
   (hp : PutT Tryd.prog 48 79 (.agg #[.int .i64 0, .int .i64 0, .int .i64 0]) w (K.tr 0) K.n1 (G.m 0) (G.c 0) G.jv n (pv2 a d) (xv y) e w') :
   ∃ O' G', e = .returned (.tuple #[]) ∧ Mem p K w0 b O' G' w' (s.setT n a d y) ∧ Fy K O O' G G' s (s.setT n a d y) w w' := by
 obtain ⟨m', he, hT, hk, hm1, hm2⟩ := hp
 have N : NewM G w w' 0 n m' := ⟨hm1, hm2, fun x hx => (hT.is n x hn hx).lt⟩
 have hL : OwnL G 0 n a [] := fun y hy => by simp at hy
 have hk2 : Kept (K.tr 0 :: ((G.m 0 n).toList ++ [])) w w' := by simpa using hk
 have f : Fx O (Oup O m' n) w w' := Fx.of hk2 (fun x hx => .inl (h.oX (by omega) hn hL x hx)) (h.oup (by omega) hn N)
 have S := h.side (by omega) hn hL hk2 f
 refine ⟨Oup O m' n, { G.setM 0 m' (fun j => if j = n then G.c 0 n + 1 else G.c 0 j) with jv := updV G.jv n (pv2 a d) (xv y) }, he, ?_, f, fun A n' l hs => ?_⟩
 · refine
   { low := S.stat.low, og := h.ogup (by omega) hn N f.size, ob := .inl h.ob, box := S.box, btag := S.btag, start := S.stat.start, out := S.stat.out, calls := S.stat.calls, leav := S.stat.leav, rets := S.stat.rets, seeds := S.stat.seeds, entr := S.stat.entr, entO := S.stat.entO, ents := S.stat.ents,
     tj := hT, tw := fun j hj => by
       have e := Iv.Gh.setM_m G 0 m' (fun j => if j = n then G.c 0 n + 1 else G.c 0 j) (j := j) (by omega)
       show TbL w' (K.tr j) K.n1 ((G.setM 0 m' (fun j => if j = n then G.c 0 n + 1 else G.c 0 j)).m j) ((G.setM 0 m' (fun j => if j = n then G.c 0 n + 1 else G.c 0 j)).c j) (G.wv j)
       rw [e.1, e.2]
       exact S.tw j hj (by omega),
     tv := S.tv (by omega), hj := fun n' a' d' hn' => ?_, hv := h.hv, jno := fun n' key hn' hne => ?_, hw := fun j m c hj hm => S.hw j m c hj hm (by omega), otr := fun i hi => .inl (h.otr i hi), opr := .inl h.opr, om := fun j l x hj hl hx => h.om2 (by omega) N hj hl hx, ow := fun j m c x hj hm hx => .inl (h.ow j m c x hj hm hx), opv := fun m x hm hx => .inl (h.opv m x hm hx),
     minj := fun j j' l l' x hj hj' hl hl' hx hx' => h.minj2 (by omega) hn N hj hj' hl hl' hx hx', winj := h.winj, trne := h.trne, prow := S.prow, ptag := S.ptag, pown := S.pown, dpp := h.dpp, queue := S.queue, rank := S.rank, cb := cb_up h.cb (by omega) hn, pb := fun m hm => h.pb m hm }
   · show updV G.jv n (pv2 a d) (xv y) n' (pv2 a' d') = xv (s.put n a d y n' a' d')
     by_cases e : n' = n ∧ a' = a ∧ d' = d
     · obtain ⟨rfl, rfl, rfl⟩ := e
       rw [updV_at, St.put_at]
     · rw [updV_ne, St.put_ne s _ e]
       · exact h.hj n' a' d' hn'
       · rintro ⟨e1, e2⟩
         have := pv2_inj e2
         omega
   · show updV G.jv n (pv2 a d) (xv y) n' key = _
     rw [updV_ne (by rintro ⟨-, e2⟩; exact hne a d e2)]
     exact h.jno n' key hn' hne
 · exact hs.same f (fun g i m c hi hm hg => hk2.block g (own_lt2 (h.hw i m c hi hm) hg) (h.nXl (by omega) hn hi hm hL hg (by omega))) (fun _ _ _ _ _ => rfl) (fun _ _ _ => rfl)
theorem Mem.put_val (h : Mem p K w0 b O G w s) {n a : Nat} {y : U} {e : Ending} (hn : n < K.n1)
   (hp : PutT Tryd.prog 3 145 (.agg #[.int .i64 0, .int .i64 0]) w (K.tr 3) K.n1 (G.m 3) (G.c 3) G.vv n (.int .i64 (a : Nat)) (uv y) e w') :
   ∃ O' G', e = .returned (.tuple #[]) ∧ Mem p K w0 b O' G' w' (s.setV n a y) ∧ Fy K O O' G G' s (s.setV n a y) w w' := by
 obtain ⟨m', he, hT, hk, hm1, hm2⟩ := hp
 have N : NewM G w w' 3 n m' := ⟨hm1, hm2, fun x hx => (hT.is n x hn hx).lt⟩
 have hL : OwnL G 3 n a [] := fun y hy => by simp at hy
 have hk2 : Kept (K.tr 3 :: ((G.m 3 n).toList ++ [])) w w' := by simpa using hk
 have f : Fx O (Oup O m' n) w w' := Fx.of hk2 (fun x hx => .inl (h.oX (by omega) hn hL x hx)) (h.oup (by omega) hn N)
 have S := h.side (by omega) hn hL hk2 f
 refine ⟨Oup O m' n, { G.setM 3 m' (fun j => if j = n then G.c 3 n + 1 else G.c 3 j) with vv := updV G.vv n (.int .i64 (a : Nat)) (uv y) }, he, ?_, f, fun A n' l hs => ?_⟩
 · refine
   { low := S.stat.low, og := h.ogup (by omega) hn N f.size, ob := .inl h.ob, box := S.box, btag := S.btag, start := S.stat.start, out := S.stat.out, calls := S.stat.calls, leav := S.stat.leav, rets := S.stat.rets, seeds := S.stat.seeds, entr := S.stat.entr, entO := S.stat.entO, ents := S.stat.ents,
     tj := S.tj (by omega), tw := fun j hj => by
       have e := Iv.Gh.setM_m G 3 m' (fun j => if j = n then G.c 3 n + 1 else G.c 3 j) (j := j) (by omega)
       show TbL w' (K.tr j) K.n1 ((G.setM 3 m' (fun j => if j = n then G.c 3 n + 1 else G.c 3 j)).m j) ((G.setM 3 m' (fun j => if j = n then G.c 3 n + 1 else G.c 3 j)).c j) (G.wv j)
       rw [e.1, e.2]
       exact S.tw j hj (by omega),
     tv := hT, hj := h.hj, hv := fun n' a' hn' => ?_, jno := h.jno, hw := fun j m c hj hm => S.hw j m c hj hm (by omega), otr := fun i hi => .inl (h.otr i hi), opr := .inl h.opr, om := fun j l x hj hl hx => h.om2 (by omega) N hj hl hx, ow := fun j m c x hj hm hx => .inl (h.ow j m c x hj hm hx), opv := fun m x hm hx => .inl (h.opv m x hm hx),
     minj := fun j j' l l' x hj hj' hl hl' hx hx' => h.minj2 (by omega) hn N hj hj' hl hl' hx hx', winj := h.winj, trne := h.trne, prow := S.prow, ptag := S.ptag, pown := S.pown, dpp := h.dpp, queue := S.queue, rank := S.rank, cb := cb_up h.cb (by omega) hn, pb := fun m hm => h.pb m hm }
   show updV G.vv n (.int .i64 (a : Nat)) (uv y) n' (.int .i64 (a' : Nat)) = uv (if n' = n ∧ a' = a then y else s.V n' a')
   by_cases e : n' = n ∧ a' = a
   · obtain ⟨rfl, rfl⟩ := e
     rw [updV_at, if_pos ⟨rfl, rfl⟩]
   · rw [updV_ne, if_neg e]
     · exact h.hv n' a' hn'
     · rintro ⟨e1, e2⟩
       exact e ⟨e1, int_key e2⟩
 · exact hs.same f (fun g i m c hi hm hg => hk2.block g (own_lt2 (h.hw i m c hi hm) hg) (h.nXl (by omega) hn hi hm hL hg (by omega))) (fun _ _ _ _ _ => rfl) (fun _ _ _ => rfl)
theorem Mem.tw1 (h : Mem p K w0 b O G w s) {i n a : Nat} {w1 : World} (hi : i = 1 ∨ i = 2) (hn : n < K.n1) (hk1 : Kept (G.wv i n (.int .i64 (a : Nat))).ownBlock.toList w w1) : TbL w1 (K.tr i) K.n1 (G.m i) (G.c i) (G.wv i) := by
 have hL : OwnL G i n a (G.wv i n (.int .i64 (a : Nat))).ownBlock.toList := fun y hy => ⟨hi, by simpa using hy⟩
 exact (h.tw i hi).kept hk1 (fun hm => (h.rtag (by omega)).ne (h.ltag hL hn hm) (by unfold rowT; (repeat' split) <;> decide) rfl) (fun m x hm hx hy => (h.ltag hL hn hy).ne_map (h.mobj (by omega) hm hx) rfl)
end
end Go.Proofs.YtincpmdldpakkaaDoor
