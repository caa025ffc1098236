/- Texts: Ck Ac Ad At. -/
import Derived.Test.YtincpmdldpakkaaGreatDoorMt28
import Derived.Test.YtincpmdldpakkaaGreatDoorMt23
import Derived.Test.YtincpmdldpakkaaGreatDoorMt24
import Derived.Test.YtincpmdldpakkaaGreatDoorMt27
import Derived.Test.YtincpmdldpakkaaGreatDoorMt06
namespace Go.Df
open Go.RowKit
def IntA (w : World) (g n : Nat) (f : Nat → Nat) : Prop:=g < w.heap.size ∧ (∀ x,x < n → w.cell? ⟨g,x,none⟩ = some (.int .i64 (f x : Nat))) ∧ ∀ x,w.frozen? ⟨g,x,none⟩ = false
theorem IntA.kept {X : List Nat} {w w' : World} {g n : Nat} {f : Nat → Nat} (h : IntA w g n f) (hk : Kept X w w') (hX : g ∉ X) : IntA w' g n f :=
 ⟨Nat.lt_of_lt_of_le h.1 hk.size,fun x hx => (hk.cell g x h.1 hX).trans (h.2.1 x hx),fun x => (hk.frozen g x h.1 hX).trans (h.2.2 x)⟩
theorem IntA.set {w : World} {g n : Nat} {f : Nat → Nat} (h : IntA w g n f) (i y : Nat) {f' : Nat → Nat} (hf : ∀ x,x < n → f' x = if x = i then y else f x) : IntA (w.setCell ⟨g,i,none⟩ (.int .i64 (y : Nat))) g n f':=by
 refine ⟨by simpa [World.setCell] using h.1,fun x hx => ?_,fun x => by simpa using h.2.2 x⟩
 rw [hf x hx]
 by_cases e : x = i
 · subst e;rw [if_pos rfl];exact set_same (h.2.1 x hx)
 · rw [if_neg e,set_other (.inr (fun h => e h.symm))];exact h.2.1 x hx
open Classical in
noncomputable def upd2 {α : Type} (f : Nat → Nat → α) (t i : Nat) (x : α) : Nat → Nat → α:=fun t' i' => if t' = t ∧ i' = i then x else f t' i'
theorem upd2_at {α : Type} (f : Nat → Nat → α) (t i : Nat) (x : α) : upd2 f t i x t i = x:=by simp [upd2]
theorem upd2_ne {α : Type} {f : Nat → Nat → α} {t i t' i' : Nat} {x : α} (h : ¬ (t' = t ∧ i' = i)) : upd2 f t i x t' i' = f t' i':=by simp [upd2,h]
def rsel5 (a b c d e : Nat) (t : Nat) : Nat:=match t with
 | 0 => a
 | 1 => b
 | 2 => c
 | 3 => d
 | _ => e
section
structure Rg (e : Nat → TypeId) (sz : Nat → Nat) (lim : Nat) (w : World) (r : Nat → Nat) (N : Nat) (v : Nat → Nat → Value) (n : Nat → Nat → Nat) (l : Nat → Nat → List Value) : Prop where
 cell : ∀ t i,t < 5 → i < N → w.cell? ⟨r t,i,none⟩ = some (v t i)
 fr : ∀ t i,t < 5 → w.frozen? ⟨r t,i,none⟩ = false
 rlt : ∀ t,t < 5 → r t < lim
 hlim : lim ≤ w.heap.size
 rr : ∀ t t',t < 5 → t' < 5 → r t = r t' → t = t'
 own : ∀ t i,t < 5 → i < N → w.ownsRow lim (e t) (sz t) (v t i) (n t i) (l t i)
 vv : ∀ t i t' i' x,t < 5 → t' < 5 → i < N → i' < N → (v t i).ownBlock = some x → (v t' i').ownBlock = some x → t = t' ∧ i = i'
variable {e : Nat → TypeId} {sz : Nat → Nat} {lim : Nat} {w w1 : World} {r : Nat → Nat} {N : Nat} {v : Nat → Nat → Value} {n : Nat → Nat → Nat} {l : Nat → Nat → List Value}
theorem Rg.kept {X : List Nat} (h : Rg e sz lim w r N v n l) (hk : Kept X w w1) (hX : ∀ x ∈ X,x < lim ∧ ∀ t,t < 5 → x ≠ r t) : Rg e sz lim w1 r N v n l:=by
 have hr : ∀ t,t < 5 → r t ∉ X:=fun t ht hm => (hX _ hm).2 t ht rfl
 have hrl : ∀ t,t < 5 → r t < w.heap.size:=fun t ht => Nat.lt_of_lt_of_le (h.rlt t ht) h.hlim
 exact ⟨fun t i ht hi => (hk.cell (r t) i (hrl t ht) (hr t ht)).trans (h.cell t i ht hi),fun t i ht => (hk.frozen (r t) i (hrl t ht) (hr t ht)).trans (h.fr t i ht),h.rlt,Nat.le_trans h.hlim hk.size,h.rr,
   fun t i ht hi => own_kept2 (h.own t i ht hi) hk (fun g hg hm => by have h1:=own_ge (h.own t i ht hi) hg;have h2:=(hX g hm).1;omega),h.vv⟩
theorem Rg.snoc {t i : Nat} {v' : Value} {n' : Nat} {l' : List Value} (h : Rg e sz lim w r N v n l) (ht : t < 5) (hi : i < N) (hk : Kept (v t i).ownBlock.toList w w1) (hv : w1.ownsRow lim (e t) (sz t) v' n' l')
   (hg : ∀ g,v'.ownBlock = some g → (v t i).ownBlock = some g ∨ w.heap.size ≤ g) : Rg e sz lim (w1.setCell ⟨r t,i,none⟩ v') r N (upd2 v t i v') (upd2 n t i n') (upd2 l t i l'):=by
 have hrl : ∀ t,t < 5 → r t < w.heap.size:=fun t ht => Nat.lt_of_lt_of_le (h.rlt t ht) h.hlim
 have hvr : ∀ t' i' g,t' < 5 → i' < N → (v t' i').ownBlock = some g → ∀ t'',t'' < 5 → g ≠ r t'':=fun t' i' g ht' hi' hg' t'' ht'' e => by
   have h1:=own_ge (h.own t' i' ht' hi') hg'
   have h2:=h.rlt t'' ht''
   omega
 have hrn : ∀ t',t' < 5 → r t' ∉ (v t i).ownBlock.toList:=fun t' ht' hm => hvr t i _ ht hi (by simpa using hm) t' ht' rfl
 have hk2 : Kept (r t :: (v t i).ownBlock.toList) w (w1.setCell ⟨r t,i,none⟩ v'):=(keptWide hk (fun x hx => List.mem_cons_of_mem _ hx)).set (r t) i v' (.inl (by simp))
 have hv'r : ∀ g,v'.ownBlock = some g → g ≠ r t:=fun g hg' => by
   rcases hg g hg' with h1 | h1
   · exact hvr t i g ht hi h1 t ht
   · have:=hrl t ht;omega
 refine ⟨fun t' i' ht' hi' => ?_,fun t' i' ht' => ?_,h.rlt,Nat.le_trans h.hlim (by simpa [World.setCell] using hk.size),h.rr,fun t' i' ht' hi' => ?_,fun t1 i1 t2 i2 x h1 h2 h3 h4 h5 h6 => ?_⟩
 · have hc:=(hk.cell (r t') i' (hrl t' ht') (hrn t' ht')).trans (h.cell t' i' ht' hi')
   by_cases e1 : t' = t ∧ i' = i
   · obtain ⟨rfl,rfl⟩:=e1
     rw [upd2_at]
     exact set_same hc
   · rw [upd2_ne e1,set_other]
     · exact hc
     · by_cases e2 : t' = t
       · right;intro e3;exact e1 ⟨e2,e3.symm⟩
       · left;intro e3;exact e2 (h.rr t' t ht' ht e3.symm)
 · have:=(hk.frozen (r t') i' (hrl t' ht') (hrn t' ht')).trans (h.fr t' i' ht')
   simpa using this
 · by_cases e1 : t' = t ∧ i' = i
   · obtain ⟨rfl,rfl⟩:=e1
     rw [upd2_at,upd2_at,upd2_at]
     exact own_kept2 hv ((Kept.refl [r t'] w1).set (r t') i' v' (.inl (by simp))) (fun g hg' => by simpa using hv'r g hg')
   · rw [upd2_ne e1,upd2_ne e1,upd2_ne e1]
     refine own_kept2 (h.own t' i' ht' hi') hk2 (fun g hg' hm => ?_)
     rcases List.mem_cons.1 hm with h1 | h1
     · exact hvr t' i' g ht' hi' hg' t ht h1
     · exact e1 (h.vv t' i' t i g ht' ht hi' hi hg' (by simpa using h1))
 · by_cases e1 : t1 = t ∧ i1 = i
   · obtain ⟨rfl,rfl⟩:=e1
     rw [upd2_at] at h5
     by_cases e2 : t2 = t1 ∧ i2 = i1
     · exact ⟨e2.1.symm,e2.2.symm⟩
     · rw [upd2_ne e2] at h6
       rcases hg x h5 with h7 | h7
       · exact h.vv t1 i1 t2 i2 x h1 h2 h3 h4 h7 h6
       · have:=own_lt2 (h.own t2 i2 h2 h4) h6;omega
   · rw [upd2_ne e1] at h5
     by_cases e2 : t2 = t ∧ i2 = i
     · obtain ⟨rfl,rfl⟩:=e2
       rw [upd2_at] at h6
       rcases hg x h6 with h7 | h7
       · exact h.vv t1 i1 t2 i2 x h1 h2 h3 h4 h5 h7
       · have:=own_lt2 (h.own t1 i1 h1 h3) h5;omega
     · rw [upd2_ne e2] at h6
       exact h.vv t1 i1 t2 i2 x h1 h2 h3 h4 h5 h6
end
theorem blk_of_obj {w : World} {g : Nat} {C : List Value} {t : TypeId} (h : w.heap[g]? = some (.cells C.toArray t (0,0))) : Blk w g C :=
 ⟨(Array.getElem?_eq_some_iff.1 h).1,fun i => by simp [World.cell?,h],fun i => by simp [World.frozen?,h]⟩
namespace Iv
open Sp
def prE (p : Vb) (t i k : Nat) : Bool :=
 match t with
 | 0 => (ge p.es k).a == (i : Int)
 | 1 => (ge p.es k).k == 2 && (ge p.es k).b == (i : Int)
 | 2 => (ge p.es k).k == 2 && If.stOf p.ns (ge p.es k).a.toNat == i
 | 3 => ((ge p.es k).k == 3 || (ge p.es k).k == 4) && (ge p.es k).c == (i : Int)
 | _ => false
def LE (p : Vb) (k t i : Nat) : List Nat:=(List.range k).filter (prE p t i)
def SE (p : Vb) (j i : Nat) : List Vs:=(p.sd.take j).filter fun s => s.n == (i : Int)
theorem LE_one (p : Vb) (k t i : Nat) : LE p (k + 1) t i = if prE p t i k = true then LE p k t i ++ [k] else LE p k t i:=filter_one k
theorem upd2_app {L : Nat → Nat → List Nat} {t i t' i' k : Nat} : upd2 L t i (L t i ++ [k]) t' i' = if t' = t ∧ i' = i then L t' i' ++ [k] else L t' i':=by
 by_cases e : t' = t ∧ i' = i
 · rw [if_pos e];obtain ⟨rfl,rfl⟩:=e;rw [upd2_at]
 · rw [if_neg e,upd2_ne e]
theorem beq_int (x i : Nat) : ((x : Int) == (i : Int)) = decide (i = x):=by
 by_cases e : i = x
 · subst e;simp
 · have : ¬ ((x : Int) = (i : Int)):=by omega
   simp [e,this]
theorem beq_nat (x i : Nat) : (x == i) = decide (i = x):=by
 by_cases e : i = x
 · subst e;simp
 · have : ¬ (x = i):=fun h => e h.symm
   simp [e,this]
theorem LE_call {p : Vb} {k ea eb st : Nat} (h2 : (ge p.es k).k = 2) (ha : (ge p.es k).a = (ea : Int)) (hb : (ge p.es k).b = (eb : Int)) (hs : If.stOf p.ns ea = st) {L1 L2 L3 : Nat → Nat → List Nat} (e1 : L1 = upd2 (LE p k) 0 ea (LE p k 0 ea ++ [k])) (e2 : L2 = upd2 L1 1 eb (L1 1 eb ++ [k])) (e3 : L3 = upd2 L2 2 st (L2 2 st ++ [k])) : LE p (k + 1) = L3:=by
 funext t i
 rw [LE_one,e3,upd2_app,e2,upd2_app,e1,upd2_app]
 match t with
 | 0 => simp [prE,ha,beq_int]
 | 1 => simp [prE,h2,hb,beq_int]
 | 2 => simp [prE,h2,ha,hs,beq_nat]
 | 3 => simp [prE,h2]
 | _ + 4 => simp [prE]
theorem LE_ret {p : Vb} {k ea ec : Nat} (h2 : (ge p.es k).k = 3 ∨ (ge p.es k).k = 4) (ha : (ge p.es k).a = (ea : Int)) (hc : (ge p.es k).c = (ec : Int)) {L1 L2 : Nat → Nat → List Nat} (e1 : L1 = upd2 (LE p k) 0 ea (LE p k 0 ea ++ [k])) (e2 : L2 = upd2 L1 3 ec (L1 3 ec ++ [k])) : LE p (k + 1) = L2:=by
 have h3 : (ge p.es k).k ≠ 2:=by omega
 funext t i
 rw [LE_one,e2,upd2_app,e1,upd2_app]
 match t with
 | 0 => simp [prE,ha,beq_int]
 | 1 => simp [prE,h3]
 | 2 => simp [prE,h3]
 | 3 => simp [prE,h2,hc,beq_int]
 | _ + 4 => simp [prE]
theorem LE_else {p : Vb} {k ea : Nat} (h2 : (ge p.es k).k ≠ 2) (h3 : (ge p.es k).k ≠ 3) (h4 : (ge p.es k).k ≠ 4) (ha : (ge p.es k).a = (ea : Int)) {L1 : Nat → Nat → List Nat} (e1 : L1 = upd2 (LE p k) 0 ea (LE p k 0 ea ++ [k])) : LE p (k + 1) = L1:=by
 funext t i
 rw [LE_one,e1,upd2_app]
 match t with
 | 0 => simp [prE,ha,beq_int]
 | 1 => simp [prE,h2]
 | 2 => simp [prE,h2]
 | 3 => simp [prE,h3,h4]
 | _ + 4 => simp [prE]
theorem LE_len (p : Vb) (k t i : Nat) : (LE p k t i).length ≤ k:=by
 have h:=List.length_filter_le (prE p t i) (List.range k)
 rw [List.length_range] at h
 exact h
def vcells (l : List Vs) : List Value:=l.flatMap fun u => [.int .i64 u.n,.int .i64 u.f,.int .i64 u.k,.int .i64 u.v]
theorem vcells_snoc (l : List Vs) (u : Vs) : vcells (l ++ [u]) = vcells l ++ [.int .i64 u.n,.int .i64 u.f,.int .i64 u.k,.int .i64 u.v]:=by simp [vcells]
def NKf (L : Nat → Nat → List Nat) (S : Nat → List Vs) (t i : Nat) : Nat:=if t = 4 then (S i).length else (L t i).length
def CKf (L : Nat → Nat → List Nat) (S : Nat → List Vs) (t i : Nat) : List Value:=if t = 4 then vcells (S i) else (ofNats (L t i)).map (Value.int .i64)
theorem NK_up {L : Nat → Nat → List Nat} {S : Nat → List Vs} {t i k : Nat} (ht : t < 4) : NKf (upd2 L t i (L t i ++ [k])) S = upd2 (NKf L S) t i ((L t i).length + 1):=by
 funext t' i'
 by_cases e : t' = t ∧ i' = i
 · obtain ⟨rfl,rfl⟩:=e
   rw [upd2_at]
   unfold NKf
   rw [if_neg (by omega),upd2_at,List.length_append]
   rfl
 · rw [upd2_ne e]
   unfold NKf
   rw [upd2_ne e]
theorem CK_up {L : Nat → Nat → List Nat} {S : Nat → List Vs} {t i k : Nat} (ht : t < 4) : CKf (upd2 L t i (L t i ++ [k])) S = upd2 (CKf L S) t i (CKf L S t i ++ [.int .i64 (k : Nat)]):=by
 funext t' i'
 by_cases e : t' = t ∧ i' = i
 · obtain ⟨rfl,rfl⟩:=e
   rw [upd2_at]
   unfold CKf
   rw [if_neg (by omega),if_neg (by omega),upd2_at,ofNats_snoc,List.map_append]
   rfl
 · rw [upd2_ne e]
   unfold CKf
   rw [upd2_ne e]
end Iv
end Go.Df
namespace Go.Df
open Go.RowKit
namespace Iv
open Sp
def EL (p : Vb) (kk j k b : Nat) : List Nat:=if (ge p.es k).k = 2 then (if k < kk then entL p k b else if k = kk then (List.range j).filter fun i => (gx (gl p.fl k) i).o == (b : Int) else []) else []
def EC (p : Vb) (kk j k : Nat) : Nat:=if (ge p.es k).k = 2 then (if k < kk then (gl p.fl k).length else if k = kk then j else 0) else 0
theorem EL_zero (p : Vb) (k b : Nat) : EL p 0 0 k b = []:=by
 unfold EL
 split
 · rw [if_neg (by omega)]
   split <;> simp
 · rfl
theorem EL_edge {p : Vb} {kk : Nat} (j : Nat) (h : (ge p.es kk).k = 2 → j = (gl p.fl kk).length) : EL p kk j = EL p (kk + 1) 0:=by
 funext k b
 unfold EL
 by_cases h2 : (ge p.es k).k = 2
 · rw [if_pos h2,if_pos h2]
   by_cases h3 : k < kk
   · rw [if_pos h3,if_pos (by omega)]
   · rw [if_neg h3]
     by_cases h4 : k = kk
     · subst h4
       rw [if_pos rfl,if_pos (by omega),h h2]
       rfl
     · rw [if_neg h4,if_neg (by omega)]
       split <;> simp
 · rw [if_neg h2,if_neg h2]
theorem EC_edge {p : Vb} {kk : Nat} (j : Nat) (h : (ge p.es kk).k = 2 → j = (gl p.fl kk).length) : EC p kk j = EC p (kk + 1) 0:=by
 funext k
 unfold EC
 by_cases h2 : (ge p.es k).k = 2
 · rw [if_pos h2,if_pos h2]
   by_cases h3 : k < kk
   · rw [if_pos h3,if_pos (by omega)]
   · rw [if_neg h3]
     by_cases h4 : k = kk
     · subst h4
       rw [if_pos rfl,if_pos (by omega),h h2]
     · rw [if_neg h4,if_neg (by omega)]
       split <;> rfl
 · rw [if_neg h2,if_neg h2]
theorem EL_pair {p : Vb} {kk j o : Nat} (h2 : (ge p.es kk).k = 2) (ho : (gx (gl p.fl kk) j).o = (o : Int)) : EL p kk (j + 1) = upd2 (EL p kk j) kk o (EL p kk j kk o ++ [j]):=by
 funext k b
 by_cases e : k = kk ∧ b = o
 · obtain ⟨rfl,rfl⟩:=e
   rw [upd2_at]
   unfold EL
   simp only [h2,if_true,Nat.lt_irrefl,if_false]
   rw [filter_one,if_pos (by simp [ho])]
 · rw [upd2_ne e]
   unfold EL
   by_cases e1 : k = kk
   · subst e1
     simp only [h2,if_true,Nat.lt_irrefl,if_false]
     rw [filter_one,if_neg (by simp [ho];intro h;exact e ⟨rfl,by omega⟩)]
   · by_cases h3 : (ge p.es k).k = 2
     · rw [if_pos h3,if_pos h3,if_neg e1,if_neg e1]
     · rw [if_neg h3,if_neg h3]
theorem EC_pair {p : Vb} {kk j : Nat} (h2 : (ge p.es kk).k = 2) (k : Nat) : EC p kk (j + 1) k = if k = kk then EC p kk j k + 1 else EC p kk j k:=by
 unfold EC
 by_cases e1 : k = kk
 · subst e1
   simp only [h2,if_true,Nat.lt_irrefl,if_false]
 · rw [if_neg e1,if_neg e1,if_neg e1]
theorem EL_len (p : Vb) (kk j k b : Nat) : (EL p kk j k b).length ≤ (gl p.fl k).length ∨ (EL p kk j k b).length ≤ j:=by
 unfold EL
 split
 · split
   · left
     have h:=List.length_filter_le (fun i => (gx (gl p.fl k) i).o == (b : Int)) (List.range (gl p.fl k).length)
     rw [List.length_range] at h
     exact h
   · split
     · right
       have h:=List.length_filter_le (fun i => (gx (gl p.fl k) i).o == (b : Int)) (List.range j)
       rw [List.length_range] at h
       exact h
     · left;exact Nat.zero_le _
 · left;exact Nat.zero_le _
end Iv
section
variable {e : Nat → TypeId} {sz : Nat → Nat} {lim : Nat} {w w1 : World} {r : Nat → Nat} {N : Nat} {v : Nat → Nat → Value} {n : Nat → Nat → Nat} {l : Nat → Nat → List Value}
theorem Rg.keptD {X : List Nat} (h : Rg e sz lim w r N v n l) (hk : Kept X w w1) (hX : ∀ x ∈ X,(∀ t,t < 5 → x ≠ r t) ∧ ∀ t i,t < 5 → i < N → (v t i).ownBlock ≠ some x) : Rg e sz lim w1 r N v n l:=by
 have hr : ∀ t,t < 5 → r t ∉ X:=fun t ht hm => (hX _ hm).1 t ht rfl
 have hrl : ∀ t,t < 5 → r t < w.heap.size:=fun t ht => Nat.lt_of_lt_of_le (h.rlt t ht) h.hlim
 exact ⟨fun t i ht hi => (hk.cell (r t) i (hrl t ht) (hr t ht)).trans (h.cell t i ht hi),fun t i ht => (hk.frozen (r t) i (hrl t ht) (hr t ht)).trans (h.fr t i ht),h.rlt,Nat.le_trans h.hlim hk.size,h.rr,
   fun t i ht hi => own_kept2 (h.own t i ht hi) hk (fun g hg hm => (hX g hm).2 t i ht hi hg),h.vv⟩
def RO (N : Nat) (v : Nat → Nat → Value) : Nat → Prop:=fun x => ∃ t i,t < 5 ∧ i < N ∧ (v t i).ownBlock = some x
def EO (N : Nat) (v : Nat → Value → Value) : Nat → Prop:=fun x => ∃ k b : Nat,k < N ∧ (v k (.int .i64 (b : Nat))).ownBlock = some x
end
end Go.Df
namespace Go.Proofs.YtincpmdldpakkaaGreatDoor
open Go.RowKit Go.Df Go.Df.Iv Go.Df.Sp
structure En (lim : Nat) (w : World) (r N : Nat) (m : Nat → Option Nat) (c : Nat → Nat) (v : Nat → Value → Value) (L : Nat → Nat → List Nat) (C : Nat → Nat) : Prop where
 tb : TbL w r N m c v
 own : ∀ k b : Nat,k < N → w.ownsRow lim 3 1 (v k (.int .i64 (b : Nat))) (L k b).length ((ofNats (L k b)).map (Value.int .i64))
 inj : ∀ (k b k' b' : Nat) x,k < N → k' < N → (v k (.int .i64 (b : Nat))).ownBlock = some x → (v k' (.int .i64 (b' : Nat))).ownBlock = some x → k = k' ∧ b = b'
 mge : ∀ k x,k < N → m k = some x → lim ≤ x
 rlt : r < lim
 cb : ∀ k,k < N → c k ≤ C k
section
variable {lim r N : Nat} {w w' : World} {m : Nat → Option Nat} {c : Nat → Nat} {v : Nat → Value → Value} {L : Nat → Nat → List Nat} {C : Nat → Nat}
theorem En.mobj (h : En lim w r N m c v L C) {k x : Nat} (hk : k < N) (hx : m k = some x) : ∃ es clock,w.heap[x]? = some (.map es clock):=(h.tb.is k x hk hx).obj
theorem En.kept {X : List Nat} (h : En lim w r N m c v L C) (hk : Kept X w w') (hX : ∀ x ∈ X,x ≠ r ∧ (∀ k,k < N → m k ≠ some x) ∧ ¬ EO N v x) : En lim w' r N m c v L C :=
 ⟨h.tb.kept hk (fun hm => (hX _ hm).1 rfl) (fun n _ hn hb hm => (hX _ hm).2.1 n hn hb),fun k b hk' => own_kept2 (h.own k b hk') hk (fun _ hg hm => (hX _ hm).2.2 ⟨k,b,hk',hg⟩),h.inj,h.mge,h.rlt,h.cb⟩
theorem En.low {X : List Nat} (h : En lim w r N m c v L C) (hk : Kept X w w') (hX : ∀ x ∈ X,x < lim ∧ x ≠ r) : En lim w' r N m c v L C :=
 h.kept hk (fun x hx => ⟨(hX x hx).2,fun k hk' hm => by have h1:=h.mge k x hk' hm;have:=(hX x hx).1;omega,fun ⟨k,b,hk',hb⟩ => by have h1:=own_ge (h.own k b hk') hb;have:=(hX x hx).1;omega⟩)
theorem En.row {t : TypeId} {y : Nat} {A : Value} {n : Nat} {xs : List Value} (h : En lim w r N m c v L C) (hk : Kept (y :: A.ownBlock.toList) w w') (hy : y < lim) (hyr : y ≠ r) (hA : w.ownsRow lim t 1 A n xs ∨ w.ownsRow lim t 4 A n xs) (hd : ∀ x,A.ownBlock = some x → ¬ EO N v x) : En lim w' r N m c v L C:=by
 have tg : ∀ x,A.ownBlock = some x → Tag w x t:=fun x hx => hA.elim (fun h => own_tag h hx) (fun h => own_tag h hx)
 have ge : ∀ x,A.ownBlock = some x → lim ≤ x:=fun x hx => hA.elim (fun h => own_ge h hx) (fun h => own_ge h hx)
 refine h.kept hk (fun x hx => ?_)
 rcases List.mem_cons.1 hx with rfl | hx
 · exact ⟨hyr,fun k hk' hm => by have h1:=h.mge k x hk' hm;omega,fun ⟨k,b,hk',hb⟩ => by have h1:=own_ge (h.own k b hk') hb;omega⟩
 · have hx : A.ownBlock = some x:=by simpa using hx
   exact ⟨fun e => by have h1:=ge x hx;have:=h.rlt;omega,fun k hk' hm => (tg x hx).ne_map (h.mobj hk' hm) rfl,hd x hx⟩
theorem En.add (h : En lim w r N m c v L C) (hlim : lim ≤ w.heap.size) {k b x n' c' : Nat} {A : Option Addr} {w1 : World} {e : Ending} (hk : k < N) (hn' : n' = (L k b ++ [x]).length)
   (hk1 : Kept (v k (.int .i64 (b : Nat))).ownBlock.toList w w1) (hv : w1.ownsRow lim 3 1 (.slice A n' c') n' ((ofNats (L k b ++ [x])).map (Value.int .i64)))
   (hg : ∀ g,(Value.slice A n' c').ownBlock = some g → (v k (.int .i64 (b : Nat))).ownBlock = some g ∨ w.heap.size ≤ g)
   (hp : PutT Tryz.prog 3 233 (.slice none 0 0) w1 r N m c v k (.int .i64 (b : Nat)) (.slice A n' c') e w') :
   ∃ m' c'' v',e = .returned (.tuple #[]) ∧ En lim w' r N m' c'' v' (upd2 L k b (L k b ++ [x])) (fun i => if i = k then C i + 1 else C i) ∧ Kept (r :: ((m k).toList ++ (v k (.int .i64 (b : Nat))).ownBlock.toList)) w w' ∧ (∀ y,EO N v' y → EO N v y ∨ w.heap.size ≤ y) ∧ ∀ i y,i < N → m' i = some y → m i = some y ∨ w.heap.size ≤ y:=by
 obtain ⟨m',he,hT,hk2,hm1,hm2⟩:=hp
 have hsz:=hk1.size
 have ntM : (3 : TypeId) ≠ 233:=by decide
 have hold:=h.own k b hk
 have tr1 : Tag w1 r 233:=h.tb.rtag.same (hk1.block r h.tb.rtag.lt (fun hm => (own_tag hold (by simpa using hm)).ne h.tb.rtag ntM rfl))
 have hmk1 : ∀ i y,i < N → m i = some y → ∃ es clock,w1.heap[y]? = some (.map es clock):=fun i y hi hy => by
   obtain ⟨es,cl,h3⟩:=h.mobj hi hy
   exact ⟨es,cl,(hk1.block y (Array.getElem?_eq_some_iff.1 h3).1 (fun hm => (own_tag hold (by simpa using hm)).ne_map ⟨es,cl,h3⟩ rfl)).trans h3⟩
 have far : ∀ y,Tag w1 y 3 → y ∉ r :: (m k).toList:=fun y ht hm => by
   rcases List.mem_cons.1 hm with h1 | h1
   · exact ht.ne tr1 ntM h1
   · exact ht.ne_map (hmk1 k y hk (by simpa using h1)) rfl
 have ho1 : ∀ k' b' : Nat,k' < N → ¬ (k' = k ∧ b' = b) → w1.ownsRow lim 3 1 (v k' (.int .i64 (b' : Nat))) (L k' b').length ((ofNats (L k' b')).map (Value.int .i64)):=fun k' b' hk' hne =>
   own_kept2 (h.own k' b' hk') hk1 (fun g hg' hm => hne (h.inj k' b' k b g hk' hk hg' (by simpa using hm)))
 have eV : updV v k (.int .i64 (b : Nat)) (.slice A n' c') k (.int .i64 (b : Nat)) = .slice A n' c':=updV_at _ _ _ _
 have nV : ∀ k' b' : Nat,¬ (k' = k ∧ b' = b) → updV v k (.int .i64 (b : Nat)) (.slice A n' c') k' (.int .i64 (b' : Nat)) = v k' (.int .i64 (b' : Nat)):=fun k' b' hne => by
   unfold updV
   rw [if_neg (fun hh => hne ⟨hh.1,int_key hh.2⟩)]
 have hEO : ∀ y,EO N (updV v k (.int .i64 (b : Nat)) (.slice A n' c')) y → EO N v y ∨ w.heap.size ≤ y:=fun y ⟨k',b',hk',hy⟩ => by
   by_cases e1 : k' = k ∧ b' = b
   · obtain ⟨rfl,rfl⟩:=e1
     rw [eV] at hy
     exact (hg y hy).imp (fun h1 => ⟨k',b',hk',h1⟩) id
   · rw [nV _ _ e1] at hy
     exact .inl ⟨k',b',hk',hy⟩
 refine ⟨m',_,_,he,⟨hT,fun k' b' hk' => ?_,fun k1 b1 k2 b2 y h1 h2 h3 h4 => ?_,fun i y hi hy => ?_,h.rlt,fun i hi => ?_⟩,?_,hEO,fun i y hi hy => ?_⟩
 · by_cases e1 : k' = k ∧ b' = b
   · obtain ⟨rfl,rfl⟩:=e1
     rw [eV,upd2_at,← hn']
     exact own_kept2 hv hk2 (fun g hg' => far g (own_tag hv hg'))
   · rw [nV _ _ e1,upd2_ne e1]
     have h9:=ho1 k' b' hk' e1
     exact own_kept2 h9 hk2 (fun g hg' => far g (own_tag h9 hg'))
 · by_cases e1 : k1 = k ∧ b1 = b
   · obtain ⟨rfl,rfl⟩:=e1
     rw [eV] at h3
     by_cases e2 : k2 = k1 ∧ b2 = b1
     · exact ⟨e2.1.symm,e2.2.symm⟩
     · rw [nV _ _ e2] at h4
       rcases hg y h3 with h5 | h5
       · exact h.inj _ _ _ _ y h1 h2 h5 h4
       · have:=own_lt2 (h.own k2 b2 h2) h4;omega
   · rw [nV _ _ e1] at h3
     by_cases e2 : k2 = k ∧ b2 = b
     · obtain ⟨rfl,rfl⟩:=e2
       rw [eV] at h4
       rcases hg y h4 with h5 | h5
       · exact h.inj _ _ _ _ y h1 h2 h3 h5
       · have:=own_lt2 (h.own k1 b1 h1) h3;omega
     · rw [nV _ _ e2] at h4
       exact h.inj _ _ _ _ y h1 h2 h3 h4
 · by_cases e1 : i = k
   · subst e1
     rcases hm2 with h1 | ⟨_,z,h1,h2⟩
     · exact h.mge i y hi (by rw [← h1];exact hy)
     · rw [hy] at h1
       injection h1 with h1
       omega
   · exact h.mge i y hi (by rw [← hm1 i e1];exact hy)
 · have h9:=h.cb i hi
   show (if i = k then c k + 1 else c i) ≤ if i = k then C i + 1 else C i
   by_cases e1 : i = k
   · subst e1;simp;exact h9
   · rw [if_neg e1,if_neg e1];exact h9
 · exact (keptWide hk1 (fun y hy => List.mem_cons_of_mem _ (List.mem_append.2 (.inr hy)))).next hk2 (fun y hy => .inl (by
     rcases List.mem_cons.1 hy with h1 | h1
     · exact List.mem_cons.2 (.inl h1)
     · exact List.mem_cons_of_mem _ (List.mem_append.2 (.inl h1))))
 · by_cases e1 : i = k
   · subst e1
     rcases hm2 with h1 | ⟨_,z,h1,h2⟩
     · exact .inl (by rw [← h1];exact hy)
     · rw [hy] at h1
       injection h1 with h1
       exact .inr (by omega)
   · exact .inl (by rw [← hm1 i e1];exact hy)
theorem En.tb1 (h : En lim w r N m c v L C) {k b : Nat} {w1 : World} (hk : k < N) (hk1 : Kept (v k (.int .i64 (b : Nat))).ownBlock.toList w w1) : TbL w1 r N m c v :=
 h.tb.kept hk1 (fun hm => (own_tag (h.own k b hk) (by simpa using hm)).ne h.tb.rtag (by decide) rfl) (fun n _ hn hb hm => (own_tag (h.own k b hk) (by simpa using hm)).ne_map (h.mobj hn hb) rfl)
theorem Rg.apart {ee : Nat → TypeId} {sz : Nat → Nat} {rr : Nat → Nat} {M : Nat} {rv : Nat → Nat → Value} {rn : Nat → Nat → Nat} {rl : Nat → Nat → List Value} (hR : Rg ee sz lim w rr M rv rn rl) (h : En lim w r N m c v L C) {k b : Nat} (hk : k < N)
   (hK : Kept (r :: ((m k).toList ++ (v k (.int .i64 (b : Nat))).ownBlock.toList)) w w') (hr : ∀ t,t < 5 → rr t ≠ r) (hd : ∀ x,RO M rv x → ¬ EO N v x) : Rg ee sz lim w' rr M rv rn rl:=by
 refine hR.keptD hK (fun x hx => ?_)
 rcases List.mem_cons.1 hx with rfl | hx
 · exact ⟨fun t ht e => hr t ht e.symm,fun t i ht hi hb => by have h1:=own_ge (hR.own t i ht hi) hb;have:=h.rlt;omega⟩
 · rcases List.mem_append.1 hx with hx | hx
   · have hx : m k = some x:=by simpa using hx
     exact ⟨fun t ht e => by have h1:=h.mge k x hk hx;have:=hR.rlt t ht;omega,fun t i ht hi hb => (own_tag (hR.own t i ht hi) hb).ne_map (h.mobj hk hx) rfl⟩
   · have hx : (v k (.int .i64 (b : Nat))).ownBlock = some x:=by simpa using hx
     exact ⟨fun t ht e => by have h1:=own_ge (h.own k b hk) hx;have:=hR.rlt t ht;omega,fun t i ht hi hb => hd x ⟨t,i,ht,hi,hb⟩ ⟨k,b,hk,hx⟩⟩
end
end Go.Proofs.YtincpmdldpakkaaGreatDoor
namespace Go.Df
open Go.RowKit
structure Pcv (base : Nat) (oI oR oS oX oL oE oV oP : Obj) (w : World) (t : Nat → Nat) (g2 g4 g6 g8 g10 g12 g14 g16 g18 g23 g25 g27 : Nat) : Prop where
 h2 : ObjT w t g2 oI 1 ∧ base ≤ g2
 h4 : ObjT w t g4 oR 2 ∧ base ≤ g4
 h6 : ObjT w t g6 oR 3 ∧ base ≤ g6
 h8 : ObjT w t g8 oR 4 ∧ base ≤ g8
 h10 : ObjT w t g10 oR 5 ∧ base ≤ g10
 h12 : ObjT w t g12 oS 6 ∧ base ≤ g12
 h14 : ObjT w t g14 oX 7 ∧ base ≤ g14
 h16 : ObjT w t g16 oL 8 ∧ base ≤ g16
 h18 : ObjT w t g18 oL 9 ∧ base ≤ g18
 h23 : ObjT w t g23 oE 10 ∧ base ≤ g23
 h25 : ObjT w t g25 oV 11 ∧ base ≤ g25
 h27 : ObjT w t g27 oP 12 ∧ base ≤ g27
theorem Pcv.grow {base : Nat} {oI oR oS oX oL oE oV oP : Obj} {w w' : World} {t t' : Nat → Nat} {g2 g4 g6 g8 g10 g12 g14 g16 g18 g23 g25 g27 : Nat} (h : Pcv base oI oR oS oX oL oE oV oP w t g2 g4 g6 g8 g10 g12 g14 g16 g18 g23 g25 g27) (hg : Grow w t w' t') : Pcv base oI oR oS oX oL oE oV oP w' t' g2 g4 g6 g8 g10 g12 g14 g16 g18 g23 g25 g27 :=
 ⟨⟨h.h2.1.grow hg,h.h2.2⟩,⟨h.h4.1.grow hg,h.h4.2⟩,⟨h.h6.1.grow hg,h.h6.2⟩,⟨h.h8.1.grow hg,h.h8.2⟩,⟨h.h10.1.grow hg,h.h10.2⟩,⟨h.h12.1.grow hg,h.h12.2⟩,⟨h.h14.1.grow hg,h.h14.2⟩,⟨h.h16.1.grow hg,h.h16.2⟩,⟨h.h18.1.grow hg,h.h18.2⟩,⟨h.h23.1.grow hg,h.h23.2⟩,⟨h.h25.1.grow hg,h.h25.2⟩,⟨h.h27.1.grow hg,h.h27.2⟩⟩
abbrev SXw (X : List Nat) (ga gb gc gd : Nat) (W w' : World) : Prop:=Kept X W w' ∧ (∀ o,w'.cell? ⟨ga,o,none⟩ = W.cell? ⟨ga,o,none⟩) ∧ (∀ o,w'.cell? ⟨gb,o,none⟩ = W.cell? ⟨gb,o,none⟩) ∧ (∀ o,w'.cell? ⟨gc,o,none⟩ = W.cell? ⟨gc,o,none⟩) ∧ (∀ o,w'.cell? ⟨gd,o,none⟩ = W.cell? ⟨gd,o,none⟩)
theorem SXw.of {X : List Nat} {ga gb gc gd : Nat} {W w' : World} (h : Kept X W w') (ha : ga < W.heap.size) (hb : gb < W.heap.size) (hc : gc < W.heap.size) (hd : gd < W.heap.size) (xa : ga ∉ X) (xb : gb ∉ X) (xc : gc ∉ X) (xd : gd ∉ X) : SXw X ga gb gc gd W w':=⟨h,fun o => h.cell ga o ha xa,fun o => h.cell gb o hb xb,fun o => h.cell gc o hc xc,fun o => h.cell gd o hd xd⟩
namespace Iv
open Sp
theorem NK_sd {L : Nat → Nat → List Nat} {S S' : Nat → List Vs} {i : Nat} {u : Vs} (hS : ∀ x,S' x = if x = i then S x ++ [u] else S x) : NKf L S' = upd2 (NKf L S) 4 i ((S i).length + 1):=by
 funext t' i'
 by_cases e : t' = 4 ∧ i' = i
 · obtain ⟨rfl,rfl⟩:=e
   rw [upd2_at]
   unfold NKf
   rw [if_pos rfl,hS,if_pos rfl,List.length_append]
   rfl
 · rw [upd2_ne e]
   unfold NKf
   by_cases e4 : t' = 4
   · rw [if_pos e4,if_pos e4,hS,if_neg (fun h => e ⟨e4,h⟩)]
   · rw [if_neg e4,if_neg e4]
theorem CK_sd {L : Nat → Nat → List Nat} {S S' : Nat → List Vs} {i : Nat} {u : Vs} (hS : ∀ x,S' x = if x = i then S x ++ [u] else S x) : CKf L S' = upd2 (CKf L S) 4 i (CKf L S 4 i ++ [.int .i64 u.n,.int .i64 u.f,.int .i64 u.k,.int .i64 u.v]):=by
 funext t' i'
 by_cases e : t' = 4 ∧ i' = i
 · obtain ⟨rfl,rfl⟩:=e
   rw [upd2_at]
   unfold CKf
   rw [if_pos rfl,if_pos rfl,hS,if_pos rfl,vcells_snoc]
 · rw [upd2_ne e]
   unfold CKf
   by_cases e4 : t' = 4
   · rw [if_pos e4,if_pos e4,hS,if_neg (fun h => e ⟨e4,h⟩)]
   · rw [if_neg e4,if_neg e4]
theorem SE_one {p : Vb} {j sn : Nat} {u : Vs} (hj : p.sd[j]? = some u) (hn : u.n = (sn : Int)) (x : Nat) : SE p (j + 1) x = if x = sn then SE p j x ++ [u] else SE p j x:=by
 have hl : j < p.sd.length:=by
   rcases Nat.lt_or_ge j p.sd.length with h | h
   · exact h
   · rw [List.getElem?_eq_none h] at hj;cases hj
 have e : p.sd[j] = u:=by rw [List.getElem?_eq_getElem hl] at hj;exact Option.some.inj hj
 unfold SE
 rw [List.take_succ_eq_append_getElem hl,List.filter_append,e]
 by_cases h : x = sn
 · rw [if_pos h,h];simp [hn]
 · rw [if_neg h]
   have : ¬ (sn : Int) = (x : Int):=by omega
   simp [hn,this]
theorem upd2_len {L : Nat → Nat → List Nat} {B a b k : Nat} (h : ∀ t i,(L t i).length ≤ B) (t i : Nat) : (upd2 L a b (L a b ++ [k]) t i).length ≤ B + 1:=by
 by_cases e : t = a ∧ i = b
 · obtain ⟨rfl,rfl⟩:=e
   rw [upd2_at,List.length_append]
   have:=h t i
   simp;omega
 · rw [upd2_ne e]
   have:=h t i
   omega
theorem SE_len (p : Vb) (j i : Nat) : (SE p j i).length ≤ j:=by
 unfold SE
 refine Nat.le_trans (List.length_filter_le _ _) ?_
 rw [List.length_take]
 omega
theorem NKf_nil (p : Vb) : NKf (LE p 0) (SE p 0) = fun _ _ => 0:=by
 funext t i
 unfold NKf LE SE
 split <;> simp
theorem CKf_nil (p : Vb) : CKf (LE p 0) (SE p 0) = fun _ _ => []:=by
 funext t i
 unfold CKf LE SE
 split <;> simp [ofNats,vcells]
def tsel4 (a b c d : Nat) (t : Nat) : Nat:=match t with
 | 0 => a
 | 1 => b
 | 2 => c
 | _ => d
end Iv
end Go.Df
namespace Go.Proofs.YtincpmdldpakkaaGreatDoor
open Go.RowKit Go.Df Go.Df.Iv Go.Df.Sp
def eT (t : Nat) : TypeId:=if t = 4 then 80 else 3
def eZ (t : Nat) : Nat:=if t = 4 then 4 else 1
structure Bd (p : Vb) (V w : World) (X : List Nat) (gs : Nat) (r : Nat → Nat) (ger n1 n2 : Nat) (L : Nat → Nat → List Nat) (S : Nat → List Vs) (E : Nat → Nat → List Nat) (C : Nat → Nat) (v : Nat → Nat → Value) (m : Nat → Option Nat) (c : Nat → Nat) (ev : Nat → Value → Value) : Prop where
 kept : Kept X V w
 st : IntA w gs n1 (fun x => If.stOf p.ns x)
 rg : Rg eT eZ V.heap.size w r n1 v (NKf L S) (CKf L S)
 en : En V.heap.size w ger n2 m c ev E C
 cd : ∀ x,RO n1 v x → ¬ EO n2 ev x
 xr : ∀ t,t < 5 → r t ∈ X
 xe : ger ∈ X
 gl : gs < V.heap.size
 gr : ∀ t,t < 5 → gs ≠ r t
 ge : gs ≠ ger
 re : ∀ t,t < 5 → r t ≠ ger
def OW (n1 n2 : Nat) (v : Nat → Nat → Value) (m : Nat → Option Nat) (ev : Nat → Value → Value) : Nat → Prop:=fun x => RO n1 v x ∨ EO n2 ev x ∨ ∃ k,k < n2 ∧ m k = some x
section
variable {p : Vb} {V w w' : World} {X : List Nat} {gs : Nat} {r : Nat → Nat} {ger n1 n2 : Nat} {L : Nat → Nat → List Nat} {S : Nat → List Vs} {E : Nat → Nat → List Nat} {C : Nat → Nat} {v : Nat → Nat → Value} {m : Nat → Option Nat} {c : Nat → Nat} {ev : Nat → Value → Value}
theorem Bd.lim (h : Bd p V w X gs r ger n1 n2 L S E C v m c ev) : V.heap.size ≤ w.heap.size:=h.kept.size
theorem Bd.owlt (h : Bd p V w X gs r ger n1 n2 L S E C v m c ev) {x : Nat} (hx : OW n1 n2 v m ev x) : V.heap.size ≤ x ∧ x < w.heap.size:=by
 rcases hx with ⟨t,i,ht,hi,hb⟩ | ⟨k,b,hk,hb⟩ | ⟨k,hk,hb⟩
 · exact ⟨own_ge (h.rg.own t i ht hi) hb,own_lt2 (h.rg.own t i ht hi) hb⟩
 · exact ⟨own_ge (h.en.own k b hk) hb,own_lt2 (h.en.own k b hk) hb⟩
 · exact ⟨h.en.mge k x hk hb,(h.en.tb.is k x hk hb).lt⟩
theorem Bd.keep (h : Bd p V w X gs r ger n1 n2 L S E C v m c ev) (hk : Kept [] w w') : Bd p V w' X gs r ger n1 n2 L S E C v m c ev :=
 { h with kept:=h.kept.next hk (by simp),st:=h.st.kept hk (by simp),rg:=h.rg.kept hk (by simp),en:=h.en.kept hk (by simp) }
theorem Bd.row (h : Bd p V w X gs r ger n1 n2 L S E C v m c ev) {t i n' : Nat} {v' : Value} {l' : List Value} {w1 : World} {L' : Nat → Nat → List Nat} {S' : Nat → List Vs} (ht : t < 5) (hi : i < n1) (hk : Kept (v t i).ownBlock.toList w w1) (hv : w1.ownsRow V.heap.size (eT t) (eZ t) v' n' l')
   (hg : ∀ g,v'.ownBlock = some g → (v t i).ownBlock = some g ∨ w.heap.size ≤ g) (hN : NKf L' S' = upd2 (NKf L S) t i n') (hC : CKf L' S' = upd2 (CKf L S) t i l') :
   Bd p V (w1.setCell ⟨r t,i,none⟩ v') X gs r ger n1 n2 L' S' E C (upd2 v t i v') m c ev ∧ Kept (r t :: (v t i).ownBlock.toList) w (w1.setCell ⟨r t,i,none⟩ v') ∧ ∀ x,OW n1 n2 (upd2 v t i v') m ev x → OW n1 n2 v m ev x ∨ w.heap.size ≤ x:=by
 have hsn:=h.rg.snoc ht hi hk hv hg
 have hk2 : Kept (r t :: (v t i).ownBlock.toList) w (w1.setCell ⟨r t,i,none⟩ v'):=(keptWide hk (fun x hx => List.mem_cons_of_mem _ hx)).set (r t) i v' (.inl (by simp))
 have hob : ∀ g,(v t i).ownBlock = some g → V.heap.size ≤ g:=fun g hg => own_ge (h.rg.own t i ht hi) hg
 have hRO : ∀ x,RO n1 (upd2 v t i v') x → RO n1 v x ∨ w.heap.size ≤ x:=fun x ⟨t',i',ht',hi',hb⟩ => by
   by_cases e : t' = t ∧ i' = i
   · obtain ⟨rfl,rfl⟩:=e
     rw [upd2_at] at hb
     exact (hg x hb).imp (fun h1 => ⟨t',i',ht',hi',h1⟩) id
   · rw [upd2_ne e] at hb
     exact .inl ⟨t',i',ht',hi',hb⟩
 have hown : w.ownsRow V.heap.size (eT t) 1 (v t i) (NKf L S t i) (CKf L S t i) ∨ w.ownsRow V.heap.size (eT t) 4 (v t i) (NKf L S t i) (CKf L S t i):=by
   have h9:=h.rg.own t i ht hi
   unfold eZ at h9
   split at h9
   · exact .inr h9
   · exact .inl h9
 refine ⟨{ kept:=h.kept.next hk2 (fun x hx => ?_),st:=h.st.kept hk2 (fun hm => ?_),rg:=?_,en:=h.en.row hk2 (h.rg.rlt t ht) (h.re t ht) hown (fun x hx => h.cd x ⟨t,i,ht,hi,hx⟩),cd:=fun x hx he => ?_,xr:=h.xr,xe:=h.xe,gl:=h.gl,gr:=h.gr,ge:=h.ge,re:=h.re },hk2,fun x hx => ?_⟩
 · rcases List.mem_cons.1 hx with rfl | hx
   · exact .inl (h.xr t ht)
   · exact .inr (hob x (by simpa using hx))
 · rcases List.mem_cons.1 hm with h1 | h1
   · exact h.gr t ht h1
   · have h2:=hob gs (by simpa using h1);have:=h.gl;omega
 · rw [hN,hC];exact hsn
 · rcases hRO x hx with h1 | h1
   · exact h.cd x h1 he
   · obtain ⟨k,b,hk',hb⟩:=he
     have:=own_lt2 (h.en.own k b hk') hb
     omega
 · rcases hx with h1 | h1 | h1
   · exact (hRO x h1).imp .inl id
   · exact .inl (.inr (.inl h1))
   · exact .inl (.inr (.inr h1))
theorem Bd.ent (h : Bd p V w X gs r ger n1 n2 L S E C v m c ev) {k b x n' c' : Nat} {A : Option Addr} {w1 : World} {e : Ending} (hk : k < n2) (hn' : n' = (E k b ++ [x]).length)
   (hk1 : Kept (ev k (.int .i64 (b : Nat))).ownBlock.toList w w1) (hv : w1.ownsRow V.heap.size 3 1 (.slice A n' c') n' ((ofNats (E k b ++ [x])).map (Value.int .i64)))
   (hg : ∀ g,(Value.slice A n' c').ownBlock = some g → (ev k (.int .i64 (b : Nat))).ownBlock = some g ∨ w.heap.size ≤ g)
   (hp : PutT Tryz.prog 3 233 (.slice none 0 0) w1 ger n2 m c ev k (.int .i64 (b : Nat)) (.slice A n' c') e w') :
   ∃ m' c'' ev',e = .returned (.tuple #[]) ∧ Bd p V w' X gs r ger n1 n2 L S (upd2 E k b (E k b ++ [x])) (fun i => if i = k then C i + 1 else C i) v m' c'' ev' ∧ Kept (ger :: ((m k).toList ++ (ev k (.int .i64 (b : Nat))).ownBlock.toList)) w w' ∧ ∀ y,OW n1 n2 v m' ev' y → OW n1 n2 v m ev y ∨ w.heap.size ≤ y:=by
 obtain ⟨m',c'',ev',he,hE,hK,hO,hM⟩:=h.en.add h.lim hk hn' hk1 hv hg hp
 have hRG:=Rg.apart h.rg h.en hk hK h.re h.cd
 have hXge : ∀ y ∈ (m k).toList ++ (ev k (.int .i64 (b : Nat))).ownBlock.toList,V.heap.size ≤ y:=fun y hy => by
   rcases List.mem_append.1 hy with h1 | h1
   · exact h.en.mge k y hk (by simpa using h1)
   · exact own_ge (h.en.own k b hk) (by simpa using h1)
 refine ⟨m',c'',ev',he,{ kept:=h.kept.next hK (fun y hy => ?_),st:=h.st.kept hK (fun hm => ?_),rg:=hRG,en:=hE,cd:=fun y hy hey => ?_,xr:=h.xr,xe:=h.xe,gl:=h.gl,gr:=h.gr,ge:=h.ge,re:=h.re },hK,fun y hy => ?_⟩
 · rcases List.mem_cons.1 hy with rfl | hy
   · exact .inl h.xe
   · exact .inr (hXge y hy)
 · rcases List.mem_cons.1 hm with h1 | h1
   · exact h.ge h1
   · have h2:=hXge gs h1;have:=h.gl;omega
 · rcases hO y hey with h1 | h1
   · exact h.cd y hy h1
   · obtain ⟨t,i,ht,hi,hb⟩:=hy
     have:=own_lt2 (h.rg.own t i ht hi) hb
     omega
 · rcases hy with h1 | h1 | ⟨k',hk',h1⟩
   · exact .inl (.inl h1)
   · exact (hO y h1).imp (fun h2 => .inr (.inl h2)) id
   · exact (hM k' y hk' h1).imp (fun h2 => .inr (.inr ⟨k',hk',h2⟩)) id
end
end Go.Proofs.YtincpmdldpakkaaGreatDoor
namespace Go.Df
open Go
section
variable {P : Program} {Q : Exit → Act → World → Prop} {md : Region.Mode} {S : World → Prop} {n : Nat}
theorem WE_two {l : List Oper} (i j : Nat) {o o' : Oper} {post post' : List Oper} {fuel : Nat} {listed : Array Bool} {a : Act} {w : World} (hd : l.drop i = o :: post) (hd' : l.drop j = o' :: post')
   (hr : (decide (Region.ready md l.toArray listed = [i,j]) && decide (i < n) && decide (j < n)) = true)
   (h : ∀ K' : Act → World → Prop,Shut (∀ a w,S w → (S w → WE P md l.toArray n Q S fuel (listed.setIfInBounds i true) a w) → K' a w) → if Region.wanted o (yielded l.toArray a.tmps) = true then Oper.wp P o a w K' Q else K' (a.put o.dst undef) w)
   (h' : ∀ K' : Act → World → Prop,Shut (∀ a w,S w → (S w → WE P md l.toArray n Q S fuel (listed.setIfInBounds j true) a w) → K' a w) → if Region.wanted o' (yielded l.toArray a.tmps) = true then Oper.wp P o' a w K' Q else K' (a.put o'.dst undef) w) :
   WE P md l.toArray n Q S (fuel + 1) listed a w:=fun inv => by
 simp only [Bool.and_eq_true,decide_eq_true_eq] at hr
 obtain ⟨⟨hr,hin⟩,hjn⟩:=hr
 refine ⟨fun h0 => (by rw [hr] at h0;cases h0),fun k hk => ?_⟩
 have hk2 : k = i ∨ k = j:=by rw [hr] at hk;simpa using hk
 rcases hk2 with rfl | rfl
 · exact wpOp_step (get_drop hd) (fun K' hK => h K' (fun a w hS hW => hK a w ⟨fun _ => hS,hW hS (inv.set hk hin)⟩))
 · exact wpOp_step (get_drop hd') (fun K' hK => h' K' (fun a w hS hW => hK a w ⟨fun _ => hS,hW hS (inv.set hk hjn)⟩))
end
end Go.Df
