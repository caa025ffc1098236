/- Texts: Bg Cm Cn Aa Aj. -/
import Derived.Test.YtincpmdldpakkaaGreatDoorMt08
namespace Go.Df
open Go.RowKit
namespace Iv
open Sp
structure St where
 T : Nat → Nat → Nat → D
 ls : Nat → Nat → Nat → List Nat
 V : Nat → Nat → U
 pd : Nat → List (Nat × Nat)
 q : List Nat
 k : Nat → Nat
def trip (N F : Nat) : List (Nat × Nat × Nat):=(List.range N).flatMap fun n => (List.range F).flatMap fun a => (List.range F).map fun d => (n,a,d)
def duo (N F : Nat) : List (Nat × Nat):=(List.range N).flatMap fun n => (List.range F).map fun a => (n,a)
theorem mem_trip {N F n a d : Nat} : (n,a,d) ∈ trip N F ↔ n < N ∧ a < F ∧ d < F:=by
 simp only [trip,List.mem_flatMap,List.mem_map,List.mem_range,Prod.mk.injEq]
 constructor
 · rintro ⟨_,h1,_,h2,_,h3,rfl,rfl,rfl⟩;exact ⟨h1,h2,h3⟩
 · rintro ⟨h1,h2,h3⟩;exact ⟨n,h1,a,h2,d,h3,rfl,rfl,rfl⟩
theorem mem_duo {N F n a : Nat} : (n,a) ∈ duo N F ↔ n < N ∧ a < F:=by
 simp only [duo,List.mem_flatMap,List.mem_map,List.mem_range,Prod.mk.injEq]
 constructor
 · rintro ⟨_,h1,_,h2,rfl,rfl⟩;exact ⟨h1,h2⟩
 · rintro ⟨h1,h2⟩;exact ⟨n,h1,a,h2,rfl,rfl⟩
theorem sum_le {α : Type} {f g : α → Nat} : ∀ (l : List α),(∀ x ∈ l,f x ≤ g x) → (l.map f).sum ≤ (l.map g).sum
 | [],_ => Nat.le_refl _
 | x :: l,h => by
   have h1:=sum_le l (fun y hy => h y (List.mem_cons_of_mem _ hy))
   have h2:=h x (by simp)
   simp only [List.map_cons,List.sum_cons]
   omega
theorem sum_lt {α : Type} {f g : α → Nat} {y : α} (hlt : f y < g y) : ∀ (l : List α),(∀ x ∈ l,f x ≤ g x) → y ∈ l → (l.map f).sum < (l.map g).sum
 | x :: l,h,hy => by
   have h1:=sum_le l (fun z hz => h z (List.mem_cons_of_mem _ hz))
   have h2:=h x (by simp)
   simp only [List.map_cons,List.sum_cons]
   rcases List.mem_cons.1 hy with rfl | hy
   · omega
   · have:=sum_lt hlt l (fun z hz => h z (List.mem_cons_of_mem _ hz)) hy
     omega
def muT (p : Vb) (T : Nat → Nat → Nat → D) : Nat:=((trip p.ns.length p.F.toNat).map fun x => stp (T x.1 x.2.1 x.2.2)).sum
def muV (p : Vb) (V : Nat → Nat → U) : Nat:=((duo p.ns.length p.F.toNat).map fun x => stpV (V x.1 x.2)).sum
def mu (p : Vb) (s : St) : Nat:=muT p s.T + muV p s.V
def mu0 (p : Vb) : Nat:=muT p (fun _ _ _ => top) + muV p (fun _ _ => topV)
def mea (p : Vb) (s : St) : Nat:=2 * mu p s + s.q.length
structure Gw (s t : St) : Prop where
 le : ∀ n a d,Iv.le (t.T n a d) (s.T n a d)
 new : ∀ n a d,t.T n a d ≠ s.T n a d → (a,d) ∈ t.pd n
 pd : ∀ n x,x ∈ s.pd n → x ∈ t.pd n
 ls : ∀ i n a,∃ r,t.ls i n a = s.ls i n a ++ r
 V : t.V = s.V
theorem Gw.refl (s : St) : Gw s s:=⟨fun _ _ _ => le_refl _,fun _ _ _ h => absurd rfl h,fun _ _ h => h,fun _ _ _ => ⟨[],by simp⟩,rfl⟩
theorem Gw.trans {s t u : St} (h : Gw s t) (g : Gw t u) : Gw s u:=by
 refine ⟨fun n a d => le_trans (g.le n a d) (h.le n a d),fun n a d hn => ?_,fun n x hx => g.pd n x (h.pd n x hx),fun i n a => ?_,g.V.trans h.V⟩
 · by_cases e : u.T n a d = t.T n a d
   · rw [e] at hn;exact g.pd n _ (h.new n a d hn)
   · exact g.new n a d e
 · obtain ⟨r,e⟩:=h.ls i n a
   obtain ⟨r',e'⟩:=g.ls i n a
   exact ⟨r ++ r',by rw [e',e,List.append_assoc]⟩
def Sn (s : St) (n a d : Nat) (y : D) : Prop:=le (s.T n a d) y ∧ (s.T n a d = y ∨ (a,d) ∈ s.pd n)
theorem Sn.self (s : St) (n a d : Nat) : Sn s n a d (s.T n a d):=⟨le_refl _,.inl rfl⟩
theorem Sn.mono {s t : St} (g : Gw s t) {n a d : Nat} {y : D} (h : Sn s n a d y) : Sn t n a d y:=by
 refine ⟨le_trans (g.le n a d) h.1,?_⟩
 by_cases e : t.T n a d = s.T n a d
 · rcases h.2 with h1 | h1
   · exact .inl (e.trans h1)
   · exact .inr (g.pd n _ h1)
 · exact .inr (g.new n a d e)
structure Wf (p : Vb) (s : St) : Prop where
 rng : ∀ n a d,s.T n a d ≠ top → n < p.ns.length ∧ a < p.F.toNat ∧ d < p.F.toNat
 l1 : ∀ n a d,d ∈ s.ls 1 n a ↔ s.T n a d ≠ top
 l2 : ∀ n a d,a ∈ s.ls 2 n d ↔ s.T n a d ≠ top
 ln : ∀ i n a,i = 1 ∨ i = 2 → (s.ls i n a).Nodup
 qn : s.q.Nodup
 qp : ∀ n,n ∈ s.q ↔ s.pd n ≠ []
 pr : ∀ n x,x ∈ s.pd n → n < p.ns.length ∧ x.1 < p.F.toNat ∧ x.2 < p.F.toNat
 kb : ∀ i,s.k i + mu p s ≤ mu0 p
def St.put (s : St) (n a d : Nat) (y : D) : Nat → Nat → Nat → D:=fun n' a' d' => if n' = n ∧ a' = a ∧ d' = d then y else s.T n' a' d'
def St.lst (s : St) (n a d : Nat) : Nat → Nat → Nat → List Nat:=fun i n' a' =>
 if s.T n a d = top then (if i = 1 ∧ n' = n ∧ a' = a then s.ls 1 n a ++ [d] else if i = 2 ∧ n' = n ∧ a' = d then s.ls 2 n d ++ [a] else s.ls i n' a') else s.ls i n' a'
def St.inc (s : St) (n a d : Nat) (x : D) : St :=
 if meet (s.T n a d) x = s.T n a d then s else
   ⟨s.put n a d (meet (s.T n a d) x),s.lst n a d,s.V,fun n' => if n' = n then s.pd n ++ [(a,d)] else s.pd n',if s.pd n = [] then s.q ++ [n] else s.q,
     fun i => if i = 1 ∨ i = 2 then (if s.T n a d = top then s.k i + 1 else s.k i) else if i = 0 ∨ i = 4 then s.k i + 1 else s.k i⟩
section
variable {p : Vb} {s : St} {n a d : Nat} {x : D}
theorem St.put_at (s : St) (n a d : Nat) (y : D) : s.put n a d y n a d = y:=by simp [St.put]
theorem St.put_ne (s : St) (y : D) {n' a' d' : Nat} (h : ¬ (n' = n ∧ a' = a ∧ d' = d)) : s.put n a d y n' a' d' = s.T n' a' d':=by unfold St.put;rw [if_neg h]
theorem inc_le (s : St) (n a d : Nat) (x : D) : le ((s.inc n a d x).T n a d) x:=by
 unfold St.inc
 split
 · rename_i h;exact meet_eq_iff.1 h
 · show le (s.put n a d _ n a d) x
   rw [St.put_at]
   exact meet_le_right _ _
theorem inc_gw (s : St) (n a d : Nat) (x : D) : Gw s (s.inc n a d x):=by
 unfold St.inc
 split
 · exact Gw.refl s
 · refine ⟨fun n' a' d' => ?_,fun n' a' d' hne => ?_,fun n' y hy => ?_,fun i n' a' => ?_,rfl⟩
   · show le (s.put n a d _ n' a' d') _
     unfold St.put
     split
     · rename_i h;obtain ⟨rfl,rfl,rfl⟩:=h;exact meet_le_left _ _
     · exact le_refl _
   · have h : n' = n ∧ a' = a ∧ d' = d := by
       refine Classical.byContradiction fun h => hne ?_
       exact St.put_ne s _ h
     obtain ⟨rfl,rfl,rfl⟩:=h
     simp
   · show y ∈ if n' = n then _ else _
     split
     · rename_i e;subst e;exact List.mem_append.2 (.inl hy)
     · exact hy
   · show ∃ r,s.lst n a d i n' a' = _
     unfold St.lst
     split
     · split
       · rename_i h;obtain ⟨rfl,rfl,rfl⟩:=h;exact ⟨_,rfl⟩
       · split
         · rename_i h;obtain ⟨rfl,rfl,rfl⟩:=h;exact ⟨_,rfl⟩
         · exact ⟨[],by simp⟩
     · exact ⟨[],by simp⟩
theorem inc_mu (hn : n < p.ns.length) (ha : a < p.F.toNat) (hd : d < p.F.toNat) (h : meet (s.T n a d) x ≠ s.T n a d) : mu p (s.inc n a d x) + 1 ≤ mu p s:=by
 have h1 : muT p (s.inc n a d x).T < muT p s.T:=by
   refine sum_lt (y:=(n,a,d)) ?_ _ (fun y _ => stp_mono ((inc_gw s n a d x).le y.1 y.2.1 y.2.2)) (mem_trip.2 ⟨hn,ha,hd⟩)
   unfold St.inc
   rw [if_neg h]
   show stp (s.put n a d _ n a d) < _
   rw [St.put_at]
   exact stp_meet _ _ h
 have h2 : (s.inc n a d x).V = s.V:=(inc_gw s n a d x).V
 unfold mu
 rw [h2]
 omega
theorem inc_mea (hn : n < p.ns.length) (ha : a < p.F.toNat) (hd : d < p.F.toNat) : mea p (s.inc n a d x) ≤ mea p s:=by
 by_cases h : meet (s.T n a d) x = s.T n a d
 · unfold St.inc;rw [if_pos h];exact Nat.le_refl _
 · have h1:=inc_mu (p:=p) hn ha hd h
   have h2 : (s.inc n a d x).q.length ≤ s.q.length + 1:=by
     unfold St.inc
     rw [if_neg h]
     dsimp only
     split
     · simp
     · omega
   unfold mea
   omega
theorem inc_wf (hw : Wf p s) (hn : n < p.ns.length) (ha : a < p.F.toNat) (hd : d < p.F.toNat) : Wf p (s.inc n a d x):=by
 by_cases h : meet (s.T n a d) x = s.T n a d
 · unfold St.inc;rw [if_pos h];exact hw
 have hmu:=inc_mu (p:=p) hn ha hd h
 have hT : ∀ n' a' d',(s.inc n a d x).T n' a' d' ≠ top ↔ s.T n' a' d' ≠ top ∨ (n' = n ∧ a' = a ∧ d' = d):=fun n' a' d' => by
   unfold St.inc
   rw [if_neg h]
   show s.put n a d _ n' a' d' ≠ top ↔ _
   by_cases e : n' = n ∧ a' = a ∧ d' = d
   · obtain ⟨rfl,rfl,rfl⟩:=e
     rw [St.put_at]
     refine ⟨fun _ => .inr ⟨rfl,rfl,rfl⟩,fun _ h9 => h ?_⟩
     have h8 : le (meet (s.T n' a' d') x) (s.T n' a' d'):=meet_le_left _ _
     rw [h9] at h8 ⊢
     unfold le at h8
     rw [meet_top] at h8
     exact h8.symm
   · rw [St.put_ne s _ e]
     exact ⟨.inl,fun h9 => h9.resolve_right e⟩
 refine ⟨fun n' a' d' h9 => ?_,fun n' a' d' => ?_,fun n' a' d' => ?_,fun i n' a' hi => ?_,?_,fun n' => ?_,fun n' y hy => ?_,fun i => ?_⟩
 · rcases (hT _ _ _).1 h9 with h9 | ⟨rfl,rfl,rfl⟩
   · exact hw.rng _ _ _ h9
   · exact ⟨hn,ha,hd⟩
 · rw [hT]
   unfold St.inc
   rw [if_neg h]
   show d' ∈ s.lst n a d 1 n' a' ↔ _
   unfold St.lst
   by_cases e0 : s.T n a d = top
   · rw [if_pos e0]
     by_cases e : (1 : Nat) = 1 ∧ n' = n ∧ a' = a
     · rw [if_pos e]
       obtain ⟨-,rfl,rfl⟩:=e
       rw [List.mem_append,hw.l1,List.mem_singleton]
       constructor
       · rintro (h1 | rfl)
         · exact .inl h1
         · exact .inr ⟨rfl,rfl,rfl⟩
       · rintro (h1 | ⟨-,-,rfl⟩)
         · exact .inl h1
         · exact .inr rfl
     · rw [if_neg e,if_neg (by simp),hw.l1]
       exact ⟨.inl,fun h1 => h1.resolve_right (fun h2 => e ⟨rfl,h2.1,h2.2.1⟩)⟩
   · rw [if_neg e0,hw.l1]
     refine ⟨.inl,fun h1 => h1.elim id ?_⟩
     rintro ⟨rfl,rfl,rfl⟩
     exact e0
 · rw [hT]
   unfold St.inc
   rw [if_neg h]
   show a' ∈ s.lst n a d 2 n' d' ↔ _
   unfold St.lst
   by_cases e0 : s.T n a d = top
   · rw [if_pos e0,if_neg (by simp)]
     by_cases e : (2 : Nat) = 2 ∧ n' = n ∧ d' = d
     · rw [if_pos e]
       obtain ⟨-,rfl,rfl⟩:=e
       rw [List.mem_append,hw.l2,List.mem_singleton]
       constructor
       · rintro (h1 | rfl)
         · exact .inl h1
         · exact .inr ⟨rfl,rfl,rfl⟩
       · rintro (h1 | ⟨-,rfl,-⟩)
         · exact .inl h1
         · exact .inr rfl
     · rw [if_neg e,hw.l2]
       exact ⟨.inl,fun h1 => h1.resolve_right (fun h2 => e ⟨rfl,h2.1,h2.2.2⟩)⟩
   · rw [if_neg e0,hw.l2]
     refine ⟨.inl,fun h1 => h1.elim id ?_⟩
     rintro ⟨rfl,rfl,rfl⟩
     exact e0
 · unfold St.inc
   rw [if_neg h]
   show (s.lst n a d i n' a').Nodup
   unfold St.lst
   split
   · rename_i e0
     split
     · rename_i e
       rw [List.nodup_append]
       refine ⟨hw.ln 1 n a (.inl rfl),by simp,fun y hy z hz => ?_⟩
       obtain rfl:=List.mem_singleton.1 hz
       rintro rfl
       exact (hw.l1 _ _ _).1 hy e0
     · split
       · rw [List.nodup_append]
         refine ⟨hw.ln 2 n d (.inr rfl),by simp,fun y hy z hz => ?_⟩
         obtain rfl:=List.mem_singleton.1 hz
         rintro rfl
         exact (hw.l2 _ _ _).1 hy e0
       · exact hw.ln i n' a' hi
   · exact hw.ln i n' a' hi
 · unfold St.inc
   rw [if_neg h]
   dsimp only
   split
   · rename_i e
     rw [List.nodup_append]
     refine ⟨hw.qn,by simp,fun y hy z hz => ?_⟩
     obtain rfl:=List.mem_singleton.1 hz
     rintro rfl
     exact (hw.qp _).1 hy e
   · exact hw.qn
 · unfold St.inc
   rw [if_neg h]
   dsimp only
   by_cases e : n' = n
   · subst e
     split
     · simp
     · rename_i e2;simp [(hw.qp n').2 e2]
   · rw [if_neg e]
     split
     · rw [List.mem_append,hw.qp];simp [e]
     · exact hw.qp _
 · unfold St.inc at hy
   rw [if_neg h] at hy
   dsimp only at hy
   split at hy
   · rename_i e
     subst e
     rcases List.mem_append.1 hy with hy | hy
     · exact hw.pr _ _ hy
     · obtain rfl:=List.mem_singleton.1 hy
       exact ⟨hn,ha,hd⟩
   · exact hw.pr _ _ hy
 · have h1:=hw.kb i
   have h2 : (s.inc n a d x).k i ≤ s.k i + 1:=by
     unfold St.inc
     rw [if_neg h]
     dsimp only
     (repeat' split) <;> omega
   omega
theorem inc_snd (hs : Snd p s.T) (hx : ∀ Y,Clo p Y → le (Y n a d) x) : Snd p (s.inc n a d x).T:=by
 unfold St.inc
 split
 · exact hs
 · intro Y hY n' a' d'
   show le _ (s.put n a d _ n' a' d')
   unfold St.put
   split
   · rename_i h
     obtain ⟨rfl,rfl,rfl⟩:=h
     exact le_meet (hs Y hY _ _ _) (hx Y hY)
   · exact hs Y hY n' a' d'
end
structure Good (p : Vb) (s : St) : Prop where
 wf : Wf p s
 snd : Snd p s.T
 pt : ∀ n x,x ∈ s.pd n → s.T n x.1 x.2 ≠ top
theorem top_of_le {x : D} (h : le top x) : x = top:=by unfold le at h;rw [meet_top] at h;exact h
theorem inc_pt {s : St} {n a d : Nat} {x : D} (h : ∀ n x,x ∈ s.pd n → s.T n x.1 x.2 ≠ top) : ∀ m y,y ∈ (s.inc n a d x).pd m → (s.inc n a d x).T m y.1 y.2 ≠ top:=fun m y hy h0 => by
 by_cases hm : meet (s.T n a d) x = s.T n a d
 · unfold St.inc at hy h0
   rw [if_pos hm] at hy h0
   exact h m y hy h0
 · have hle:=(inc_gw s n a d x).le m y.1 y.2
   rw [h0] at hle
   have h1:=top_of_le hle
   by_cases e : m = n ∧ y = (a,d)
   · obtain ⟨rfl,rfl⟩:=e
     have h2 : (s.inc m a d x).T m a d = meet (s.T m a d) x:=by unfold St.inc;rw [if_neg hm];exact St.put_at s m a d _
     exact hm (by rw [← h2,h0,h1])
   · refine h m y ?_ h1
     unfold St.inc at hy
     rw [if_neg hm] at hy
     dsimp only at hy
     split at hy
     · rename_i e1
       subst e1
       rcases List.mem_append.1 hy with h3 | h3
       · exact h3
       · exact absurd ⟨rfl,List.mem_singleton.1 h3⟩ e
     · exact hy
theorem Good.inc {p : Vb} {s : St} (h : Good p s) {n a d : Nat} {x : D} (hn : n < p.ns.length) (ha : a < p.F.toNat) (hd : d < p.F.toNat) (hx : ∀ Y,Clo p Y → le (Y n a d) x) : Good p (s.inc n a d x):=⟨inc_wf h.wf hn ha hd,inc_snd h.snd hx,inc_pt h.pt⟩
def Pen (n0 : Nat) (rest : List (Nat × Nat)) (s : St) (n : Nat) (x : Nat × Nat) : Prop:=x ∈ s.pd n ∨ (n = n0 ∧ x ∈ rest)
structure Inv (p : Vb) (n0 : Nat) (rest : List (Nat × Nat)) (s : St) : Prop where
 good : Good p s
 rst : ∀ x ∈ rest,n0 < p.ns.length ∧ x.1 < p.F.toNat ∧ x.2 < p.F.toNat ∧ s.T n0 x.1 x.2 ≠ top
 main : le (s.T p.mn.toNat 0 0) shift
 seed : ∀ u ∈ p.sd,Pen n0 rest s u.n.toNat (0,0) ∨ s.T u.n.toNat 0 0 = top ∨ le (s.T u.n.toNat 0 u.f.toNat) (sx u)
 flow : ∀ k,k < p.es.length → ((ge p.es k).k = 1 ∨ (ge p.es k).k = 5) → ∀ q ∈ gl p.fl k,∀ a,Pen n0 rest s (ge p.es k).a.toNat (a,q.i.toNat) ∨ le (s.T (ge p.es k).b.toNat a q.o.toNat) (comp (s.T (ge p.es k).a.toNat a q.i.toNat) (xd q))
 call : ∀ k,k < p.es.length → (ge p.es k).k = 2 → ∀ q ∈ gl p.fl k,∀ a,Pen n0 rest s (ge p.es k).a.toNat (a,q.i.toNat) ∨ s.T (ge p.es k).a.toNat a q.i.toNat = top ∨ xd q = top ∨ le (s.T (ge p.es k).b.toNat q.o.toNat q.o.toNat) shift
 ret : ∀ c,c < p.es.length → (ge p.es c).k = 2 → ∀ q ∈ gl p.fl c,∀ r,r < p.es.length → ((ge p.es r).k = 3 ∨ (ge p.es r).k = 4) → ∀ u ∈ gl p.fl r,(ge p.es c).a = (ge p.es r).c → (gn p.ns (ge p.es c).b.toNat).f = (gn p.ns (ge p.es r).a.toNat).f →
   ∀ a,Pen n0 rest s (ge p.es c).a.toNat (a,q.i.toNat) ∨ Pen n0 rest s (ge p.es r).a.toNat (q.o.toNat,u.i.toNat) ∨
     le (s.T (ge p.es r).b.toNat a u.o.toNat) (comp (comp (comp (s.T (ge p.es c).a.toNat a q.i.toNat) (xd q)) (s.T (ge p.es r).a.toNat q.o.toNat u.i.toNat)) (xd u))
structure Did (p : Vb) (n a d : Nat) (x : D) (t : St) : Prop where
 seed : a = 0 → d = 0 → ∀ u ∈ p.sd,u.n = n → le (t.T n 0 u.f.toNat) (sx u)
 flow : ∀ k,k < p.es.length → ((ge p.es k).k = 1 ∨ (ge p.es k).k = 5) → (ge p.es k).a = n → ∀ q ∈ gl p.fl k,q.i = d → le (t.T (ge p.es k).b.toNat a q.o.toNat) (comp x (xd q))
 call : ∀ k,k < p.es.length → (ge p.es k).k = 2 → (ge p.es k).a = n → ∀ q ∈ gl p.fl k,q.i = d → xd q ≠ top → le (t.T (ge p.es k).b.toNat q.o.toNat q.o.toNat) shift
 retC : ∀ c,c < p.es.length → (ge p.es c).k = 2 → (ge p.es c).a = n → ∀ q ∈ gl p.fl c,q.i = d → xd q ≠ top → ∀ r,r < p.es.length → ((ge p.es r).k = 3 ∨ (ge p.es r).k = 4) → (ge p.es c).a = (ge p.es r).c → (gn p.ns (ge p.es c).b.toNat).f = (gn p.ns (ge p.es r).a.toNat).f →
   ∀ u ∈ gl p.fl r,∃ y,Sn t (ge p.es r).a.toNat q.o.toNat u.i.toNat y ∧ le (t.T (ge p.es r).b.toNat a u.o.toNat) (comp (comp (comp x (xd q)) y) (xd u))
 retR : ∀ r,r < p.es.length → ((ge p.es r).k = 3 ∨ (ge p.es r).k = 4) → (ge p.es r).a = n → ∀ c,c < p.es.length → (ge p.es c).k = 2 → (ge p.es c).a = (ge p.es r).c → (gn p.ns (ge p.es c).b.toNat).f = (gn p.ns (ge p.es r).a.toNat).f →
   ∀ q ∈ gl p.fl c,q.o = a → ∀ a',∃ y,Sn t (ge p.es c).a.toNat a' q.i.toNat y ∧ ∀ u ∈ gl p.fl r,u.i = d → le (t.T (ge p.es r).b.toNat a' u.o.toNat) (comp (comp (comp y (xd q)) x) (xd u))
section
variable {p : Vb} {s t : St} {n0 : Nat} {rest : List (Nat × Nat)}
theorem Pen.mono (g : Gw s t) {n : Nat} {x : Nat × Nat} (h : Pen n0 rest s n x) : Pen n0 rest t n x:=h.imp (g.pd n x) id
theorem same_or (g : Gw s t) (n0 : Nat) (rest : List (Nat × Nat)) (n a d : Nat) : t.T n a d = s.T n a d ∨ Pen n0 rest t n (a,d):=by
 by_cases e : t.T n a d = s.T n a d
 · exact .inl e
 · exact .inr (.inl (g.new n a d e))
theorem Inv.mono (h : Inv p n0 rest s) (g : Gw s t) (hg : Good p t) : Inv p n0 rest t:=by
 refine ⟨hg,fun x hx => ⟨(h.rst x hx).1,(h.rst x hx).2.1,(h.rst x hx).2.2.1,fun h0 => (h.rst x hx).2.2.2 (top_of_le (h0 ▸ g.le n0 x.1 x.2))⟩,le_trans (g.le _ _ _) h.main,fun u hu => ?_,fun k hk h2 q hq a => ?_,fun k hk h2 q hq a => ?_,fun c hc h2 q hq r hr h3 u hu e1 e2 a => ?_⟩
 · rcases h.seed u hu with h1 | h1 | h1
   · exact .inl (h1.mono g)
   · rcases same_or g n0 rest u.n.toNat 0 0 with e | e
     · exact .inr (.inl (e.trans h1))
     · exact .inl e
   · exact .inr (.inr (le_trans (g.le _ _ _) h1))
 · rcases h.flow k hk h2 q hq a with h1 | h1
   · exact .inl (h1.mono g)
   · rcases same_or g n0 rest (ge p.es k).a.toNat a q.i.toNat with e | e
     · rw [e];exact .inr (le_trans (g.le _ _ _) h1)
     · exact .inl e
 · rcases h.call k hk h2 q hq a with h1 | h1 | h1 | h1
   · exact .inl (h1.mono g)
   · rcases same_or g n0 rest (ge p.es k).a.toNat a q.i.toNat with e | e
     · exact .inr (.inl (e.trans h1))
     · exact .inl e
   · exact .inr (.inr (.inl h1))
   · exact .inr (.inr (.inr (le_trans (g.le _ _ _) h1)))
 · rcases h.ret c hc h2 q hq r hr h3 u hu e1 e2 a with h1 | h1 | h1
   · exact .inl (h1.mono g)
   · exact .inr (.inl (h1.mono g))
   · rcases same_or g n0 rest (ge p.es c).a.toNat a q.i.toNat with e | e
     · rcases same_or g n0 rest (ge p.es r).a.toNat q.o.toNat u.i.toNat with e' | e'
       · rw [e,e'];exact .inr (.inr (le_trans (g.le _ _ _) h1))
       · exact .inr (.inl e')
     · exact .inl e
theorem Inv.step (ho : VOk p) {n a d : Nat} (h : Inv p n ((a,d) :: rest) s) (g : Gw s t) (hg : Good p t) (hd : Did p n a d (s.T n a d) t) : Inv p n rest t:=by
 have h1:=h.mono g hg
 have hx:=Sn.mono g (Sn.self s n a d)
 have cut : ∀ {m b c : Nat},Pen n ((a,d) :: rest) t m (b,c) → Pen n rest t m (b,c) ∨ (m = n ∧ b = a ∧ c = d):=fun {m b c} hp => by
   rcases hp with hp | ⟨e,hp⟩
   · exact .inl (.inl hp)
   · rcases List.mem_cons.1 hp with hp | hp
     · injection hp with e1 e2;exact .inr ⟨e,e1,e2⟩
     · exact .inl (.inr ⟨e,hp⟩)
 refine ⟨hg,fun x hx => h1.rst x (List.mem_cons_of_mem _ hx),h1.main,fun u hu => ?_,fun k hk h2 q hq a' => ?_,fun k hk h2 q hq a' => ?_,fun c hc h2 q hq r hr h3 u hu e1 e2 a' => ?_⟩
 · rcases h1.seed u hu with h5 | h5
   · rcases cut h5 with h6 | ⟨e1,e2,e3⟩
     · exact .inl h6
     · have h7:=ho.seed hu
       have:=hd.seed e2.symm e3.symm u hu (by omega)
       rw [e1]
       exact .inr (.inr this)
   · exact .inr h5
 · rcases h1.flow k hk h2 q hq a' with h5 | h5
   · rcases cut h5 with h6 | ⟨e1,e2,e3⟩
     · exact .inl h6
     · have h7:=ho.pair hq
       have h8:=(ho.pf.edge hk)
       have h9:=hd.flow k hk h2 (by have:=h8.1;show (ge p.es k).a = _;have : 0 ≤ (ge p.es k).a:=h8.1;omega) q hq (by omega)
       rcases hx.2 with e | e
       · right;rw [e1,e2,e3,e];exact h9
       · left;left;rw [e1,e2,e3];exact e
   · exact .inr h5
 · rcases h1.call k hk h2 q hq a' with h5 | h5
   · rcases cut h5 with h6 | ⟨e1,e2,e3⟩
     · exact .inl h6
     · by_cases h0 : xd q = top
       · exact .inr (.inr (.inl h0))
       · have h7:=ho.pair hq
         have h8 : 0 ≤ (ge p.es k).a:=(ho.pf.edge hk).1
         exact .inr (.inr (.inr (hd.call k hk h2 (by omega) q hq (by omega) h0)))
   · exact .inr h5
 · rcases h1.ret c hc h2 q hq r hr h3 u hu e1 e2 a' with h5 | h5 | h5
   · rcases cut h5 with h6 | ⟨f1,f2,f3⟩
     · exact .inl h6
     · by_cases h0 : xd q = top
       · right;right;rw [h0,comp_top,top_comp,top_comp];exact le_top _
       · have h7:=ho.pair hq
         have h8 : 0 ≤ (ge p.es c).a:=(ho.pf.edge hc).1
         obtain ⟨y,hy,h9⟩:=hd.retC c hc h2 (by omega) q hq (by omega) h0 r hr h3 e1 e2 u hu
         rcases hx.2 with e | e
         · rcases hy.2 with e' | e'
           · right;right;rw [f1,f2,f3,e,e'];exact h9
           · exact .inr (.inl (.inl e'))
         · left;left;rw [f1,f2,f3];exact e
   · rcases cut h5 with h6 | ⟨f1,f2,f3⟩
     · exact .inr (.inl h6)
     · have h7:=ho.pair hq
       have h7':=ho.pair hu
       have h8 : 0 ≤ (ge p.es r).a:=(ho.pf.edge hr).1
       obtain ⟨y,hy,h9⟩:=hd.retR r hr h3 (by omega) c hc h2 e1 e2 q hq (by omega) a'
       have h9:=h9 u hu (by omega)
       rcases hx.2 with e | e
       · rcases hy.2 with e' | e'
         · right;right;rw [f1,f2,f3,e,e'];exact h9
         · exact .inl (.inl e')
       · right;left;left;rw [f1,f2,f3];exact e
   · exact .inr (.inr h5)
def popS (s : St) (n : Nat) (r : List Nat) : St:=⟨s.T,s.ls,s.V,fun n' => if n' = n then [] else s.pd n',r,s.k⟩
theorem Wf.pop (h : Wf p s) {n : Nat} {r : List Nat} (hq : s.q = n :: r) : Wf p (popS s n r):=by
 have hn:=h.qn
 rw [hq] at hn
 obtain ⟨h1,h2⟩:=List.nodup_cons.1 hn
 refine ⟨h.rng,h.l1,h.l2,h.ln,h2,fun n' => ?_,fun n' x hx => ?_,h.kb⟩
 · show n' ∈ r ↔ (if n' = n then [] else s.pd n') ≠ []
   by_cases e : n' = n
   · subst e;simp [h1]
   · rw [if_neg e]
     have:=h.qp n'
     rw [hq] at this
     rw [← this]
     simp [e]
 · have hx : x ∈ (if n' = n then [] else s.pd n'):=hx
   split at hx
   · cases hx
   · exact h.pr _ _ hx
theorem Inv.pop (h : Inv p n0 [] s) {n : Nat} {r : List Nat} (hq : s.q = n :: r) : Inv p n (s.pd n) (popS s n r):=by
 have cv : ∀ {m : Nat} {x : Nat × Nat},Pen n0 [] s m x → Pen n (s.pd n) (popS s n r) m x:=fun {m x} hp => by
   rcases hp with hp | ⟨_,hp⟩
   · by_cases e : m = n
     · exact .inr ⟨e,by rw [← e];exact hp⟩
     · refine .inl ?_
       show x ∈ if m = n then [] else s.pd m
       rw [if_neg e]
       exact hp
   · cases hp
 exact ⟨⟨h.good.wf.pop hq,h.good.snd,fun m x hx => by
   have hx : x ∈ (if m = n then [] else s.pd m):=hx
   split at hx
   · cases hx
   · exact h.good.pt m x hx⟩,fun x hx => ⟨(h.good.wf.pr n x hx).1,(h.good.wf.pr n x hx).2.1,(h.good.wf.pr n x hx).2.2,h.good.pt n x hx⟩,h.main,fun u hu => (h.seed u hu).imp cv id,fun k hk h2 q hq' a => (h.flow k hk h2 q hq' a).imp cv id,fun k hk h2 q hq' a => (h.call k hk h2 q hq' a).imp cv id,
   fun c hc h2 q hq' r' hr h3 u hu e1 e2 a => (h.ret c hc h2 q hq' r' hr h3 u hu e1 e2 a).imp cv (Or.imp cv id)⟩
theorem Inv.rest0 {n : Nat} (h : Inv p n [] s) (m : Nat) : Inv p m [] s:=by
 have cv : ∀ {m' : Nat} {x : Nat × Nat},Pen n [] s m' x → Pen m [] s m' x:=fun hp => hp.imp id (fun h9 => by cases h9.2)
 exact ⟨h.good,(fun x hx => by cases hx),h.main,fun u hu => (h.seed u hu).imp cv id,fun k hk h2 q hq' a => (h.flow k hk h2 q hq' a).imp cv id,fun k hk h2 q hq' a => (h.call k hk h2 q hq' a).imp cv id,
   fun c hc h2 q hq' r' hr h3 u hu e1 e2 a => (h.ret c hc h2 q hq' r' hr h3 u hu e1 e2 a).imp cv (Or.imp cv id)⟩
theorem mea_pop {n : Nat} {r : List Nat} (hq : s.q = n :: r) : mea p (popS s n r) + 1 = mea p s:=by
 unfold mea mu
 show 2 * (muT p s.T + muV p s.V) + r.length + 1 = _
 rw [hq]
 simp only [List.length_cons]
 omega
theorem Inv.done (h : Inv p n0 [] s) (hq : s.q = []) : Clo p s.T:=by
 have no : ∀ {m : Nat} {x : Nat × Nat},¬ Pen n0 [] s m x:=fun {m x} hp => by
   rcases hp with hp | ⟨_,hp⟩
   · have h1 : s.pd m ≠ []:=fun e => by rw [e] at hp;cases hp
     have h2:=(h.good.wf.qp m).2 h1
     rw [hq] at h2
     cases h2
   · cases hp
 refine ⟨h.main,fun u hu h0 => ?_,fun k hk h2 q hq' a => (h.flow k hk h2 q hq' a).resolve_left no,fun k hk h2 q hq' a h0 h1 => ?_,fun c hc h2 q hq' r' hr h3 u hu e1 e2 a => ((h.ret c hc h2 q hq' r' hr h3 u hu e1 e2 a).resolve_left no).resolve_left no⟩
 · exact ((h.seed u hu).resolve_left no).resolve_left h0
 · exact (((h.call k hk h2 q hq' a).resolve_left no).resolve_left h0).resolve_left h1
def st0 : St:=⟨fun _ _ _ => top,fun _ _ _ => [],fun _ _ => topV,fun _ => [],[],fun _ => 0⟩
theorem st0_wf (p : Vb) : Wf p st0:=by
 refine ⟨fun _ _ _ h => absurd rfl h,fun n a d => ?_,fun n a d => ?_,fun _ _ _ _ => List.nodup_nil,List.nodup_nil,fun n => ?_,fun n x hx => ?_,fun i => ?_⟩
 · exact ⟨(fun h => by cases h),fun h => absurd rfl h⟩
 · exact ⟨(fun h => by cases h),fun h => absurd rfl h⟩
 · exact ⟨(fun h => by cases h),fun h => absurd rfl h⟩
 · cases hx
 · show 0 + mu p st0 ≤ mu0 p
   rw [Nat.zero_add]
   exact Nat.le_refl _
theorem shift_ne : shift ≠ top:=by decide
theorem init_inv (ho : VOk p) : Inv p 0 [] (st0.inc p.mn.toNat 0 0 shift):=by
 have hm:=If.main_in (If.sup_parts ho.sup).2.2.1
 have hF:=ho.f1
 have hn : p.mn.toNat < p.ns.length:=by omega
 have h0 : 0 < p.F.toNat:=by omega
 have hg : Good p (st0.inc p.mn.toNat 0 0 shift):=⟨inc_wf (st0_wf p) hn h0 h0,inc_snd (fun _ _ _ _ _ => le_top _) (fun Y hY => hY.main),inc_pt (fun _ x hx => by cases hx)⟩
 have hne : meet (st0.T p.mn.toNat 0 0) shift ≠ st0.T p.mn.toNat 0 0:=by
   show meet top shift ≠ top
   rw [top_meet]
   exact shift_ne
 have hT : ∀ m a d,(st0.inc p.mn.toNat 0 0 shift).T m a d = top ∨ Pen 0 [] (st0.inc p.mn.toNat 0 0 shift) m (a,d):=fun m a d => by
   rcases same_or (inc_gw st0 p.mn.toNat 0 0 shift) 0 [] m a d with e | e
   · exact .inl e
   · exact .inr e
 refine ⟨hg,(fun x hx => by cases hx),inc_le _ _ _ _ _,fun u hu => ?_,fun k hk h2 q hq a => ?_,fun k hk h2 q hq a => ?_,fun c hc h2 q hq r hr h3 u hu e1 e2 a => ?_⟩
 · exact (hT _ _ _).elim (fun e => .inr (.inl e)) .inl
 · rcases hT (ge p.es k).a.toNat a q.i.toNat with e | e
   · right;rw [e,top_comp];exact le_top _
   · exact .inl e
 · exact (hT _ _ _).elim (fun e => .inr (.inl e)) .inl
 · rcases hT (ge p.es c).a.toNat a q.i.toNat with e | e
   · right;right;rw [e,top_comp,top_comp,top_comp];exact le_top _
   · exact .inl e
end
end Iv
end Go.Df
namespace Go.Df
open Go.RowKit
namespace Iv
open Sp
noncomputable def solV (p : Vb) (T : Nat → Nat → Nat → D) (V : Nat → Nat → U) (n d : Nat) : U:=(List.range p.F.toNat).foldl (fun v a => meetV v (app (T n a d) (V (If.stOf p.ns n) a))) topV
theorem fold_glb {S : U → Prop} {f : Nat → U} : ∀ (l : List Nat) {v : U},Glb S v → Glb (fun u => S u ∨ ∃ a ∈ l,u = f a) (l.foldl (fun v a => meetV v (f a)) v)
 | [],v,h => h.iff (fun x => ⟨fun h1 => h1.elim id (fun ⟨_,h2,_⟩ => by cases h2),.inl⟩)
 | a :: l,v,h => by
   have h1 : Glb (fun u => S u ∨ u = f a) (meetV v (f a)):=h.add (fun x => Iff.rfl)
   refine (fold_glb l h1).iff (fun x => ?_)
   constructor
   · rintro (h2 | ⟨b,hb,h2⟩)
     · exact .inl (.inl h2)
     · rcases List.mem_cons.1 hb with rfl | hb
       · exact .inl (.inr h2)
       · exact .inr ⟨b,hb,h2⟩
   · rintro ((h2 | h2) | ⟨b,hb,h2⟩)
     · exact .inl h2
     · exact .inr ⟨a,by simp,h2⟩
     · exact .inr ⟨b,List.mem_cons_of_mem _ hb,h2⟩
theorem solV_glb {p : Vb} {T : Nat → Nat → Nat → D} {V : Nat → Nat → U} {n d : Nat} (h : ∀ a,¬ a < p.F.toNat → T n a d = top) : Glb (At p T V n d) (solV p T V n d):=by
 have h1:=fold_glb (f:=fun a => app (T n a d) (V (If.stOf p.ns n) a)) (List.range p.F.toNat) (Glb.none (S:=fun _ => False) (fun _ h => h))
 refine ⟨fun u hu => ?_,fun z hz => h1.2 z (fun u hu => ?_)⟩
 · obtain ⟨a,rfl⟩:=hu
   by_cases ha : a < p.F.toNat
   · exact h1.1 _ (.inr ⟨a,List.mem_range.2 ha,rfl⟩)
   · rw [h a ha,top_app];exact leV_top _
 · rcases hu with hu | ⟨a,_,rfl⟩
   · exact hu.elim
   · exact hz _ ⟨a,rfl⟩
theorem at_some {p : Vb} {T : Nat → Nat → Nat → D} {V : Nat → Nat → U} {n d : Nat} {v : U} (h : Glb (fun u => ∃ a,T n a d ≠ top ∧ u = app (T n a d) (V (If.stOf p.ns n) a)) v) : Glb (At p T V n d) v:=by
 refine ⟨fun u hu => ?_,fun z hz => h.2 z (fun u hu => ?_)⟩
 · obtain ⟨a,rfl⟩:=hu
   by_cases ha : T n a d = top
   · rw [ha,top_app];exact leV_top _
   · exact h.1 _ ⟨a,ha,rfl⟩
 · obtain ⟨a,_,rfl⟩:=hu
   exact hz _ ⟨a,rfl⟩
end Iv
end Go.Df
namespace Go.Df
open Go.RowKit
namespace Iv
open Sp
def tput (T : Nat → Nat → Nat → D) (n a d : Nat) (y : D) : Nat → Nat → Nat → D:=fun n' a' d' => if n' = n ∧ a' = a ∧ d' = d then y else T n' a' d'
structure Rs (p : Vb) (T T' : Nat → Nat → Nat → D) (b : Bool) : Prop where
 le : ∀ n a d,Iv.le (T' n a d) (T n a d)
 snd : Snd p T → Snd p T'
 same : b = false → T' = T
 less : b = true → muT p T' < muT p T
section
variable {p : Vb} {T T' T'' : Nat → Nat → Nat → D} {b b' : Bool}
end
def vput (V : Nat → Nat → U) (n a : Nat) (y : U) : Nat → Nat → U:=fun n' a' => if n' = n ∧ a' = a then y else V n' a'
structure Rv (p : Vb) (T : Nat → Nat → Nat → D) (V V' : Nat → Nat → U) (b : Bool) : Prop where
 le : ∀ n a,leV (V' n a) (V n a)
 snd : VSnd p T V → VSnd p T V'
 same : b = false → V' = V
 less : b = true → muV p V' < muV p V
section
variable {p : Vb} {T : Nat → Nat → Nat → D} {V V' V'' : Nat → Nat → U} {b b' : Bool}
end
end Iv
end Go.Df
namespace Go.Df
open Go.RowKit
namespace Iv
open Sp
noncomputable def lv (p : Vb) (T : Nat → Nat → Nat → D) (V : Nat → Nat → U) (k : Nat) (q : Xp) : U:=app (xd q) (solV p T V (ge p.es k).a.toNat q.i.toNat)
def IsSol (p : Vb) (S : Nat → Nat → U) : Prop:=∃ T V,Clo p T ∧ Snd p T ∧ VClo p T V ∧ VSnd p T V ∧ ∀ n d,n < p.ns.length → d < p.F.toNat → Glb (At p T V n d) (S n d)
theorem IsSol.eq {p : Vb} {S S' : Nat → Nat → U} (h : IsSol p S) (k : IsSol p S') {n d : Nat} (hn : n < p.ns.length) (hd : d < p.F.toNat) : S n d = S' n d:=by
 obtain ⟨T,V,c1,s1,v1,w1,g1⟩:=h
 obtain ⟨T',V',c2,s2,v2,w2,g2⟩:=k
 have e : T' = T:=by funext n a d;exact clo_eq c2 s2 c1 s1 n a d
 subst e
 have e : V' = V:=by funext n a;exact vclo_eq v2 w2 v1 w1 n a
 subst e
 exact (g1 n d hn hd).eq (g2 n d hn hd)
def V0s (p : Vb) : Nat → Nat → U:=vput (fun _ _ => topV) p.mn.toNat 0 botV
end Iv
end Go.Df
namespace Go.Df
open Go.RowKit
namespace If
open Sp
theorem Ok.zero {p : Pb} (h : Ok p) {k : Nat} (hk : k < p.es.length) : (⟨0,0⟩ : Pr) ∈ gf p.fl k:=by
 have h1:=h.fl k (by rw [h.len];exact hk)
 have h2 : gp (gf p.fl k) 0 = ⟨0,0⟩:=h1.2.2.2
 rw [← h2]
 unfold gp
 rw [List.getD_eq_getElem?_getD,List.getElem?_eq_getElem h1.2.2.1]
 exact List.getElem_mem _
theorem PE.zero {p : Pb} (h : Ok p) {a n d : Nat} (hp : PE p a n d) : PE p 0 n 0:=by
 induction hp with
 | main => exact .main
 | seed h1 _ _ => exact h1
 | flow hk h2 _ _ ih => exact .flow (q:=⟨0,0⟩) hk h2 (h.zero hk) ih
 | call hk h2 _ _ ih => exact .call (q:=⟨0,0⟩) hk h2 (h.zero hk) ih
 | ret hc h2 _ hr h3 _ e1 e2 _ _ ih1 ih2 => exact .ret (q:=⟨0,0⟩) (s:=⟨0,0⟩) hc h2 (h.zero hc) hr h3 (h.zero hr) e1 e2 ih1 ih2
end If
namespace Iv
open Sp
theorem comp_shift : comp shift shift = shift:=by decide +kernel
theorem xd_first {p : Vb} (ho : VOk p) {k : Nat} (hk : k < p.es.length) : (⟨0,0,2,0,0⟩ : Xp) ∈ gl p.fl k ∧ xd ⟨0,0,2,0,0⟩ = shift:=by
 have h1:=ho.fl k (by rw [ho.len];exact hk)
 refine ⟨by rw [← h1.2.2.2];exact gx_mem h1.2.2.1,Subtype.ext (xd_is (by decide) (by decide +kernel) (by decide +kernel))⟩
def Plain (p : Vb) : Prop:=∀ k,k < p.es.length → ∀ q ∈ gl p.fl k,xd q = shift
end Iv
end Go.Df
