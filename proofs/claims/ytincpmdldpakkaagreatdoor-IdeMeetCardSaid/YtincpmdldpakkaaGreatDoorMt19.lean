/- Texts: Tq Tt Uf. -/
import Derived.Test.YtincpmdldpakkaaGreatDoorMt13
import Derived.Test.YtincpmdldpakkaaGreatDoorMt18
import Derived.Test.YtincpmdldpakkaaGreatDoorMt08
namespace Go.Df
open Go.RowKit
namespace Iv
open Sp
inductive PX (p : Vb) : Nat → Nat → Nat → Nat → D → Prop
 | main : PX p p.mn.toNat 0 p.mn.toNat 0 shift
 | seed {x : Nat} {s : Vs} {X : D} : PX p x 0 s.n.toNat 0 X → X ≠ top → s ∈ p.sd → PX p x 0 s.n.toNat s.f.toNat (sx s)
 | flow {x a k : Nat} {q : Xp} {X : D} : k < p.es.length → ((ge p.es k).k = 1 ∨ (ge p.es k).k = 5) → q ∈ gl p.fl k → PX p x a (ge p.es k).a.toNat q.i.toNat X → PX p x a (ge p.es k).b.toNat q.o.toNat (comp X (xd q))
 | call {x a k : Nat} {q : Xp} {X : D} : k < p.es.length → (ge p.es k).k = 2 → q ∈ gl p.fl k → PX p x a (ge p.es k).a.toNat q.i.toNat X → X ≠ top → xd q ≠ top → PX p (ge p.es k).b.toNat q.o.toNat (ge p.es k).b.toNat q.o.toNat shift
 | ret {x a c r : Nat} {q s : Xp} {X Y : D} : c < p.es.length → (ge p.es c).k = 2 → q ∈ gl p.fl c → r < p.es.length → ((ge p.es r).k = 3 ∨ (ge p.es r).k = 4) → s ∈ gl p.fl r → (ge p.es c).a = (ge p.es r).c →
     PX p x a (ge p.es c).a.toNat q.i.toNat X → PX p (ge p.es c).b.toNat q.o.toNat (ge p.es r).a.toNat s.i.toNat Y → PX p x a (ge p.es r).b.toNat s.o.toNat (comp (comp (comp X (xd q)) Y) (xd s))
theorem mem_pf {p : Vb} {k : Nat} {q : Xp} (h : q ∈ gl p.fl k) : (⟨q.i,q.o⟩ : If.Pr) ∈ If.gf (pf p).fl k:=by
 rw [pf_gf]
 exact List.mem_map.2 ⟨q,h,rfl⟩
theorem PX.pes {p : Vb} {x a n d : Nat} {X : D} (h : PX p x a n d X) : If.PES (pf p) x a n d:=by
 induction h with
 | main => exact .main
 | @seed x s X _ _ hs ih => exact .seed (p:=pf p) (s:=⟨s.n,s.f⟩) ih (List.mem_map.2 ⟨s,hs,rfl⟩)
 | @flow x a k q X hk h2 hq _ ih => exact .flow (p:=pf p) (q:=⟨q.i,q.o⟩) hk h2 (mem_pf hq) ih
 | @call x a k q X hk h2 hq _ _ _ ih => exact .call (p:=pf p) (q:=⟨q.i,q.o⟩) hk h2 (mem_pf hq) ih
 | @ret x a c r q s X Y hc h2 hq hr h3 hs e1 _ _ ih1 ih2 => exact .ret (p:=pf p) (q:=⟨q.i,q.o⟩) (s:=⟨s.i,s.o⟩) hc h2 (mem_pf hq) hr h3 (mem_pf hs) e1 ih1 ih2
theorem PX.low {p : Vb} (ho : VOk p) {T : Nat → Nat → Nat → D} (hT : Clo p T) {x a n d : Nat} {X : D} (h : PX p x a n d X) : le (T n a d) X:=by
 have nt : ∀ {y z : D},le y z → z ≠ top → y ≠ top:=fun h1 h2 h3 => h2 (top_of_le (by rw [h3] at h1;exact h1))
 induction h with
 | main => exact hT.main
 | seed _ h1 hs ih => exact hT.seed _ hs (nt ih h1)
 | flow hk h2 hq _ ih => exact le_trans (hT.flow _ hk h2 _ hq _) (comp_mono ih (le_refl _))
 | call hk h2 hq _ h3 h4 ih => exact hT.call _ hk h2 _ hq _ (nt ih h3) h4
 | @ret x a c r q s X Y hc h2 hq hr h3 hs e1 _ hp2 ih1 ih2 =>
   have hst:=hp2.pes.start ho.pf
   exact le_trans (hT.ret c hc h2 q hq r hr h3 s hs e1 hst.2.2.2 a) (comp_mono (comp_mono (comp_mono ih1 (le_refl _)) ih2) (le_refl _))
def GlbD (S : D → Prop) (g : D) : Prop:=(∀ x,S x → le g x) ∧ ∀ y,(∀ x,S x → le y x) → le y g
theorem fin_from (S : D → Prop) : ∀ (n : Nat) (l : List D),(∀ x ∈ l,S x) → stp (l.foldr meet top) = n → ∃ l : List D,(∀ x ∈ l,S x) ∧ ∀ x,S x → le (l.foldr meet top) x:=by
 intro n
 induction n using Nat.strongRecOn with
 | ind n ih =>
   intro l hl hn
   by_cases h : ∀ x,S x → le (l.foldr meet top) x
   · exact ⟨l,hl,h⟩
   · have ⟨x,hx⟩ : ∃ x,¬ (S x → le (l.foldr meet top) x):=Classical.not_forall.1 h
     have ⟨h1,h2⟩ : S x ∧ ¬ le (l.foldr meet top) x:=Classical.not_imp.1 hx
     have h3 : meet (l.foldr meet top) x ≠ l.foldr meet top:=fun e => h2 (meet_eq_iff.1 e)
     have h4:=stp_meet _ _ h3
     rw [meet_comm] at h4
     exact ih (stp ((x :: l).foldr meet top)) (by show stp (meet x (l.foldr meet top)) < n;omega) (x :: l) (fun y hy => by
       rcases List.mem_cons.1 hy with rfl | hy
       · exact h1
       · exact hl y hy) rfl
theorem glb_fin (S : D → Prop) : ∃ l : List D,(∀ x ∈ l,S x) ∧ ∀ x,S x → le (l.foldr meet top) x:=fin_from S _ [] (fun _ h => by cases h) rfl
theorem fold_low {l : List D} {y : D} (h : ∀ x ∈ l,le y x) : le y (l.foldr meet top):=by
 induction l with
 | nil => exact le_top _
 | cons x l ih => exact le_meet (h x (by simp)) (ih fun z hz => h z (List.mem_cons_of_mem _ hz))
theorem glb_is (S : D → Prop) : ∃ g,GlbD S g:=by
 obtain ⟨l,h1,h2⟩:=glb_fin S
 exact ⟨_,h2,fun y hy => fold_low fun x hx => hy x (h1 x hx)⟩
theorem glb_map {S : D → Prop} {g : D} (hg : GlbD S g) (f : D → D) (hm : ∀ x y,f (meet x y) = meet (f x) (f y)) (ht : f top = top) {y : D} (hy : ∀ x,S x → le y (f x)) : le y (f g):=by
 obtain ⟨l,h1,h2⟩:=glb_fin S
 have e : g = l.foldr meet top:=le_antisymm (fold_low fun x hx => hg.1 x (h1 x hx)) (hg.2 _ h2)
 have hf : ∀ l : List D,f (l.foldr meet top) = (l.map f).foldr meet top:=fun l => by
   induction l with
   | nil => exact ht
   | cons x l ih => show f (meet x _) = meet (f x) _;rw [hm,ih]
 rw [e,hf]
 refine fold_low fun z hz => ?_
 obtain ⟨x,hx,rfl⟩:=List.mem_map.1 hz
 exact hy x (h1 x hx)
theorem foldV_low {l : List U} {y : U} (h : ∀ x ∈ l,leV y x) : leV y (l.foldr meetV topV):=by
 induction l with
 | nil => exact leV_top _
 | cons x l ih => exact le_meetV (h x (by simp)) (ih fun z hz => h z (List.mem_cons_of_mem _ hz))
theorem glb_mapV {S : D → Prop} {g : D} (hg : GlbD S g) (f : D → U) (hm : ∀ x y,f (meet x y) = meetV (f x) (f y)) (ht : f top = topV) {y : U} (hy : ∀ x,S x → leV y (f x)) : leV y (f g):=by
 obtain ⟨l,h1,h2⟩:=glb_fin S
 have e : g = l.foldr meet top:=le_antisymm (fold_low fun x hx => hg.1 x (h1 x hx)) (hg.2 _ h2)
 have hf : ∀ l : List D,f (l.foldr meet top) = (l.map f).foldr meetV topV:=fun l => by
   induction l with
   | nil => exact ht
   | cons x l ih => show f (meet x _) = meetV (f x) _;rw [hm,ih]
 rw [e,hf]
 refine foldV_low fun z hz => ?_
 obtain ⟨x,hx,rfl⟩:=List.mem_map.1 hz
 exact hy x (h1 x hx)
theorem finV_from (S : U → Prop) : ∀ (n : Nat) (l : List U),(∀ x ∈ l,S x) → stpV (l.foldr meetV topV) = n → ∃ l : List U,(∀ x ∈ l,S x) ∧ ∀ x,S x → leV (l.foldr meetV topV) x:=by
 intro n
 induction n using Nat.strongRecOn with
 | ind n ih =>
   intro l hl hn
   by_cases h : ∀ x,S x → leV (l.foldr meetV topV) x
   · exact ⟨l,hl,h⟩
   · have ⟨x,hx⟩ : ∃ x,¬ (S x → leV (l.foldr meetV topV) x):=Classical.not_forall.1 h
     have ⟨h1,h2⟩ : S x ∧ ¬ leV (l.foldr meetV topV) x:=Classical.not_imp.1 hx
     have h3 : meetV (l.foldr meetV topV) x ≠ l.foldr meetV topV:=fun e => h2 (meetV_eq_iff.1 e)
     have h4:=stpV_meet _ _ h3
     rw [meetV_comm] at h4
     exact ih (stpV ((x :: l).foldr meetV topV)) (by show stpV (meetV x (l.foldr meetV topV)) < n;omega) (x :: l) (fun y hy => by
       rcases List.mem_cons.1 hy with rfl | hy
       · exact h1
       · exact hl y hy) rfl
theorem glbV_fin (S : U → Prop) : ∃ l : List U,(∀ x ∈ l,S x) ∧ ∀ x,S x → leV (l.foldr meetV topV) x:=finV_from S _ [] (fun _ h => by cases h) rfl
theorem glbV_is (S : U → Prop) : ∃ g,Glb S g:=by
 obtain ⟨l,h1,h2⟩:=glbV_fin S
 exact ⟨_,h2,fun y hy => foldV_low fun x hx => hy x (h1 x hx)⟩
theorem glbV_map {S : U → Prop} {g : U} (hg : Glb S g) (f : U → U) (hm : ∀ x y,f (meetV x y) = meetV (f x) (f y)) (ht : f topV = topV) {y : U} (hy : ∀ x,S x → leV y (f x)) : leV y (f g):=by
 obtain ⟨l,h1,h2⟩:=glbV_fin S
 have e : g = l.foldr meetV topV:=leV_antisymm (foldV_low fun x hx => hg.1 x (h1 x hx)) (hg.2 _ h2)
 have hf : ∀ l : List U,f (l.foldr meetV topV) = (l.map f).foldr meetV topV:=fun l => by
   induction l with
   | nil => exact ht
   | cons x l ih => show f (meetV x _) = meetV (f x) _;rw [hm,ih]
 rw [e,hf]
 refine foldV_low fun z hz => ?_
 obtain ⟨x,hx,rfl⟩:=List.mem_map.1 hz
 exact hy x (h1 x hx)
noncomputable def Ug (p : Vb) (n a d : Nat) : D:=(glb_is (fun X => ∃ x,PX p x a n d X)).choose
theorem ug_glb (p : Vb) (n a d : Nat) : GlbD (fun X => ∃ x,PX p x a n d X) (Ug p n a d):=(glb_is (fun X => ∃ x,PX p x a n d X)).choose_spec
theorem ug_some {p : Vb} {n a d : Nat} (h : Ug p n a d ≠ top) : ∃ x X,PX p x a n d X ∧ X ≠ top:=by
 refine Classical.byContradiction fun h9 => h (top_of_le ((ug_glb p n a d).2 top fun X ⟨x,hX⟩ => ?_))
 have : X = top:=Classical.byContradiction fun h8 => h9 ⟨x,X,hX,h8⟩
 rw [this]
 exact le_refl _
theorem clo_ug {p : Vb} (ho : VOk p) : Clo p (Ug p):=by
 refine ⟨(ug_glb p _ _ _).1 _ ⟨_,.main⟩,fun s hs h0 => ?_,fun k hk h2 q hq a => ?_,fun k hk h2 q hq a h0 h1 => ?_,fun c hc h2 q hq r hr h3 s hs e1 e2 a => ?_⟩
 · obtain ⟨x,X,h1,h2⟩:=ug_some h0
   exact (ug_glb p _ _ _).1 _ ⟨x,.seed h1 h2 hs⟩
 · exact glb_map (ug_glb p _ _ _) (fun X => comp X (xd q)) (fun x y => meet_comp x y _) (top_comp _) (fun X ⟨x,hX⟩ => (ug_glb p _ _ _).1 _ ⟨x,.flow hk h2 hq hX⟩)
 · obtain ⟨x,X,h4,h5⟩:=ug_some h0
   exact (ug_glb p _ _ _).1 _ ⟨_,.call hk h2 hq h4 h5 h1⟩
 · refine glb_map (ug_glb p (ge p.es c).a.toNat a q.i.toNat) (fun X => comp (comp (comp X (xd q)) (Ug p (ge p.es r).a.toNat q.o.toNat s.i.toNat)) (xd s)) (fun x y => by rw [meet_comp,meet_comp,meet_comp]) (by rw [top_comp,top_comp,top_comp]) (fun X ⟨x,hX⟩ => ?_)
   refine glb_map (ug_glb p (ge p.es r).a.toNat q.o.toNat s.i.toNat) (fun Y => comp (comp (comp X (xd q)) Y) (xd s)) (fun y z => by rw [comp_meet,meet_comp]) (by rw [comp_top,top_comp]) (fun Y ⟨y,hY⟩ => ?_)
   have h5:=hY.pes.start ho.pf
   have h6:=Rc.call_edge ho.sup hc h2
   have h7:=If.sup_edge ho.sup hc
   have e : y = (ge p.es c).b.toNat:=Rc.start_one ho.sup h5.1 (by omega) h5.2.2.1 h6.1 (h5.2.2.2.trans e2.symm)
   subst e
   exact (ug_glb p _ _ _).1 _ ⟨x,.ret hc h2 hq hr h3 hs e1 hX hY⟩
theorem t_is {p : Vb} (ho : VOk p) {T : Nat → Nat → Nat → D} (hT : Clo p T) (sT : Snd p T) (n a d : Nat) : GlbD (fun X => ∃ x,PX p x a n d X) (T n a d):=by
 have e : T n a d = Ug p n a d:=le_antisymm ((ug_glb p n a d).2 _ fun X ⟨_,hX⟩ => hX.low ho hT) (sT _ (clo_ug ho) n a d)
 rw [e]
 exact ug_glb p n a d
inductive VX (p : Vb) : Nat → Nat → U → Prop
 | main : VX p p.mn.toNat 0 botV
 | call {x a k : Nat} {q : Xp} {X : D} {v : U} : VX p x a v → k < p.es.length → (ge p.es k).k = 2 → q ∈ gl p.fl k → PX p x a (ge p.es k).a.toNat q.i.toNat X → VX p (ge p.es k).b.toNat q.o.toNat (app (comp X (xd q)) v)
theorem PX.st {p : Vb} (ho : VOk p) {x a n d : Nat} {X : D} (h : PX p x a n d X) : If.stOf p.ns n = x:=by
 have h1:=h.pes.start ho.pf
 exact (ho.pf.nd.start_iff h1.2.1 h1.1 h1.2.2.1).2 h1.2.2.2
theorem VX.low {p : Vb} (ho : VOk p) {T : Nat → Nat → Nat → D} (hT : Clo p T) {V : Nat → Nat → U} (hV : VClo p T V) {x a : Nat} {v : U} (h : VX p x a v) : leV (V x a) v:=by
 induction h with
 | main => exact hV.main
 | @call x a k q X v _ hk h2 hq hX ih =>
   refine leV_trans (hV.call k hk h2 q hq a) ?_
   rw [hX.st ho]
   exact app_mono (comp_mono (hX.low ho hT) (le_refl _)) ih
noncomputable def Yg (p : Vb) (x a : Nat) : U:=(glbV_is (VX p x a)).choose
theorem yg_glb (p : Vb) (x a : Nat) : Glb (VX p x a) (Yg p x a):=(glbV_is (VX p x a)).choose_spec
theorem vclo_yg {p : Vb} (ho : VOk p) {T : Nat → Nat → Nat → D} (hT : Clo p T) (sT : Snd p T) : VClo p T (Yg p):=by
 refine ⟨(yg_glb p _ _).1 _ .main,fun k hk h2 q hq a => ?_⟩
 refine glb_mapV (t_is ho hT sT (ge p.es k).a.toNat a q.i.toNat) (fun X => app (comp X (xd q)) (Yg p (If.stOf p.ns (ge p.es k).a.toNat) a)) (fun x y => by rw [meet_comp,app_meet]) (by rw [top_comp,top_app]) (fun X ⟨x,hX⟩ => ?_)
 refine glbV_map (yg_glb p _ _) (fun v => app (comp X (xd q)) v) (fun v w => app_meetV _ v w) (app_topV _) (fun v hv => ?_)
 rw [hX.st ho] at hv
 exact (yg_glb p _ _).1 _ (.call hv hk h2 hq hX)
theorem v_is {p : Vb} (ho : VOk p) {T : Nat → Nat → Nat → D} (hT : Clo p T) (sT : Snd p T) {V : Nat → Nat → U} (hV : VClo p T V) (sV : VSnd p T V) (x a : Nat) : Glb (VX p x a) (V x a):=by
 have e : V x a = Yg p x a:=leV_antisymm ((yg_glb p x a).2 _ fun v hv => hv.low ho hT hV) (sV _ (vclo_yg ho hT sT) x a)
 rw [e]
 exact yg_glb p x a
def Wy (p : Vb) (n d : Nat) (u : U) : Prop:=∃ x a X v,PX p x a n d X ∧ VX p x a v ∧ u = app X v
theorem sol_ways {p : Vb} (ho : VOk p) {S : Nat → Nat → U} (hS : IsSol p S) {n d : Nat} (hn : n < p.ns.length) (hd : d < p.F.toNat) : Glb (Wy p n d) (S n d):=by
 obtain ⟨T,V,c1,s1,v1,w1,g1⟩:=hS
 have hg:=g1 n d hn hd
 refine ⟨fun u ⟨x,a,X,v,hX,hv,e⟩ => ?_,fun z hz => hg.2 z fun u ⟨a,e⟩ => ?_⟩
 · subst e
   refine leV_trans (hg.1 _ ⟨a,rfl⟩) ?_
   rw [hX.st ho]
   exact app_mono (hX.low ho c1) (hv.low ho c1 v1)
 · subst e
   refine glb_mapV (t_is ho c1 s1 n a d) (fun X => app X (V (If.stOf p.ns n) a)) (fun x y => app_meet x y _) (top_app _) (fun X ⟨x,hX⟩ => ?_)
   refine glbV_map (v_is ho c1 s1 v1 w1 (If.stOf p.ns n) a) (fun v => app X v) (fun v w => app_meetV _ v w) (app_topV _) (fun v hv => ?_)
   rw [hX.st ho] at hv
   exact hz _ ⟨x,a,X,v,hX,hv,rfl⟩
def sdVal (s : Vs) : U:=app (sx s) botV
theorem sx_app (s : Vs) (v : U) : v ≠ topV → app (sx s) v = sdVal s:=fun hv => Subtype.ext (by
 have hk : v.1.k ≠ 0:=fun e => hv (kind_topV.1 e)
 unfold sdVal
 show Go.Proofs.YtincpmdldpakkaaGreatDoor.Xf.apply (sx s).1 v.1 = Go.Proofs.YtincpmdldpakkaaGreatDoor.Xf.apply (sx s).1 ⟨2,0⟩
 unfold sx
 split
 · split
   · rw [mkD_val];simp [Go.Proofs.YtincpmdldpakkaaGreatDoor.Xf.apply,hk]
   · simp [top,Go.Proofs.YtincpmdldpakkaaGreatDoor.Xf.apply]
 · split
   · simp [bot,Go.Proofs.YtincpmdldpakkaaGreatDoor.Xf.apply,hk]
   · simp [top,Go.Proofs.YtincpmdldpakkaaGreatDoor.Xf.apply])
inductive Lt (p : Vb) : List Int → Nat → U → Prop
 | nil : Lt p [] 0 botV
 | nils {s : Vs} : s ∈ p.sd → s.n = p.mn → Lt p [] s.f.toNat (sdVal s)
 | snoc {path : List Int} {k : Nat} {q : Xp} {v : U} : Lt p path q.i.toNat v → q ∈ gl p.fl k → Lt p (path ++ [(k : Int)]) q.o.toNat (app (xd q) v)
 | seed {path : List Int} {k : Nat} {s : Vs} : s ∈ p.sd → s.n = (ge p.es k).b → Lt p (path ++ [(k : Int)]) s.f.toNat (sdVal s)
end Iv
end Go.Df
namespace Go.Df
open Go.RowKit
namespace Iv
open Sp
theorem to_snoc {p : Vb} {q : List Int} {k n : Int} {st : List Int} (h : runS p.es p.mn [] (q ++ [k]) = (0,n,st)) : ∃ n1 st1,runS p.es p.mn [] q = (0,n1,st1) ∧ stepS p.es n1 st1 k = (0,n,st):=by
 have h0 : (runS p.es p.mn [] q).1 = 0:=by
   have : ∀ (pa : List Int) (a : Int) (cs : List Int),(runS p.es a cs (pa ++ [k])).1 = 0 → (runS p.es a cs pa).1 = 0:=by
     intro pa
     induction pa with
     | nil => exact fun _ _ _ => rfl
     | cons y r ih =>
       intro a cs h
       rw [List.cons_append,runS] at h
       rw [runS]
       split at h
       · rename_i h0;exact absurd h h0
       · rename_i h0
         rw [if_neg h0]
         exact ih _ _ h
   exact this q p.mn [] (by rw [h])
 obtain ⟨n1,st1,h1⟩ : ∃ n1 st1,runS p.es p.mn [] q = (0,n1,st1):=⟨_,_,by rw [← h0]⟩
 refine ⟨n1,st1,h1,?_⟩
 rw [If.runS_append q [k] h1,runS] at h
 split at h
 · rename_i g
   injection h with g1 _
   exact absurd g1 g
 · rename_i g
   have g:=Decidable.byContradiction g
   rw [runS] at h
   injection h with _ h
   exact Prod.ext g h
theorem step_cases {p : Vb} {n1 n : Int} {st1 st : List Int} {k : Int} (h : stepS p.es n1 st1 k = (0,n,st)) :
   ∃ j : Nat,k = j ∧ j < p.es.length ∧ (ge p.es j).a = n1 ∧ n = (ge p.es j).b ∧
     ((((ge p.es j).k = 3 ∨ (ge p.es j).k = 4) ∧ st1 = (ge p.es j).c :: st) ∨ ((ge p.es j).k = 2 ∧ st = n1 :: st1) ∨ ((ge p.es j).k ≠ 3 ∧ (ge p.es j).k ≠ 4 ∧ (ge p.es j).k ≠ 2 ∧ st = st1)):=by
 unfold stepS at h
 split at h
 · injection h with h _;cases h
 · rename_i hk
   obtain ⟨j,rfl⟩ : ∃ j : Nat,k = j:=⟨k.toNat,by omega⟩
   rw [Int.toNat_natCast] at h
   split at h
   · injection h with h _;cases h
   · rename_i ha
     refine ⟨j,rfl,by omega,Classical.not_not.mp ha,?_⟩
     split at h
     · rename_i h3
       split at h
       · injection h with h _;cases h
       · rename_i hc
         injection h with _ h
         injection h with e1 e2
         rw [not_or,Classical.not_not] at hc
         refine ⟨e1.symm,.inl ⟨h3,?_⟩⟩
         cases st1 with
         | nil => exact absurd rfl hc.1
         | cons c r => rw [← e2];have h9:=hc.2;simp [gi] at h9;simp [h9]
     · rename_i h3
       split at h
       · rename_i h2
         injection h with _ h
         injection h with e1 e2
         exact ⟨e1.symm,.inr (.inl ⟨h2,e2.symm⟩)⟩
       · rename_i h2
         injection h with _ h
         injection h with e1 e2
         exact ⟨e1.symm,.inr (.inr ⟨fun e => h3 (.inl e),fun e => h3 (.inr e),h2,e2.symm⟩)⟩
theorem kind_in {p : Vb} (ho : VOk p) {j : Nat} (hj : j < p.es.length) (h3 : (ge p.es j).k ≠ 3) (h4 : (ge p.es j).k ≠ 4) (h2 : (ge p.es j).k ≠ 2) : (ge p.es j).k = 1 ∨ (ge p.es j).k = 5:=by
 have:=If.sup_edge ho.sup hj
 omega
theorem PX.ext {p : Vb} (ho : VOk p) {x a n d : Nat} {X : D} (hp : PX p x a n d X) : ∀ (path st : List Int) (v : U),If.To (pf p) path x st → Lt p path a v → ∃ more v',If.To (pf p) (path ++ more) n st ∧ Lt p (path ++ more) d v' ∧ leV v' (app X v):=by
 have hop:=ho.pf
 induction hp with
 | main => exact fun path st v h hl => ⟨[],v,by rw [List.append_nil];exact ⟨h,hl,by rw [shift_app];exact leV_refl _⟩⟩
 | @seed x s X _ hX hs ih =>
   intro path st v h hl
   obtain ⟨more,v',h1,-,-⟩:=ih path st v h hl
   have hlow : leV (sdVal s) (app (sx s) v):=by
     by_cases hv : v = topV
     · rw [hv,app_topV];exact leV_top _
     · rw [sx_app s v hv];exact leV_refl _
   refine ⟨more,sdVal s,h1,?_,hlow⟩
   have hsd:=ho.seed hs
   generalize path ++ more = pth at h1
   rcases List.eq_nil_or_concat pth with rfl | ⟨q,k,e⟩
   · unfold If.To at h1
     rw [runS] at h1
     injection h1 with _ h1
     injection h1 with h1 _
     have e1 : s.n = p.mn:=by have : ((s.n.toNat : Nat) : Int) = (pf p).mn:=h1.symm;have e2 : (pf p).mn = p.mn:=rfl;omega
     exact .nils hs e1
   · rw [List.concat_eq_append] at e
     subst e
     obtain ⟨n1,st1,-,h2⟩:=to_snoc (p:=p) h1
     obtain ⟨j,rfl,-,-,e2,-⟩:=step_cases h2
     exact .seed hs (by omega)
 | @flow x a k q X hk h2 hq _ ih =>
   intro path st v h hl
   obtain ⟨more,v',t1,t2,t3⟩:=ih path st v h hl
   refine ⟨more ++ [(k : Int)],app (xd q) v',?_,?_,?_⟩
   · rw [← List.append_assoc];exact t1.more (If.step_flow hop hk h2 st)
   · rw [← List.append_assoc];exact .snoc t2 hq
   · rw [app_comp];exact app_mono (le_refl _) t3
 | @call x a k q X hk h2 hq _ _ _ _ => exact fun path st v h hl => ⟨[],v,by rw [List.append_nil];exact ⟨h,hl,by rw [shift_app];exact leV_refl _⟩⟩
 | @ret x a c r q s X Y hc h2 hq hr h3 hs e1 _ _ ih1 ih2 =>
   intro path st v h hl
   obtain ⟨m1,v1,t1,t2,t3⟩:=ih1 path st v h hl
   have u1:=t1.more (If.step_call hop hc h2 st)
   have u2 : Lt p (path ++ m1 ++ [(c : Int)]) q.o.toNat (app (xd q) v1):=.snoc t2 hq
   obtain ⟨m2,v2,w1,w2,w3⟩:=ih2 _ _ _ u1 u2
   have e1' : (ge (pf p).es c).a = (ge (pf p).es r).c:=e1
   rw [e1'] at w1
   have y1:=w1.more (If.step_ret hop hr h3 st)
   have y2 : Lt p (path ++ m1 ++ [(c : Int)] ++ m2 ++ [(r : Int)]) s.o.toNat (app (xd s) v2):=.snoc w2 hs
   refine ⟨m1 ++ [(c : Int)] ++ m2 ++ [(r : Int)],app (xd s) v2,?_,?_,?_⟩
   · have e : path ++ (m1 ++ [(c : Int)] ++ m2 ++ [(r : Int)]) = path ++ m1 ++ [(c : Int)] ++ m2 ++ [(r : Int)]:=by simp
     rw [e];exact y1
   · have e : path ++ (m1 ++ [(c : Int)] ++ m2 ++ [(r : Int)]) = path ++ m1 ++ [(c : Int)] ++ m2 ++ [(r : Int)]:=by simp
     rw [e];exact y2
   · rw [app_comp,app_comp,app_comp]
     exact app_mono (le_refl _) (leV_trans w3 (app_mono (le_refl _) (app_mono (le_refl _) t3)))
theorem main_nat {p : Vb} (ho : VOk p) : ((p.mn.toNat : Nat) : Int) = p.mn:=by have:=If.main_in (If.sup_parts ho.sup).2.2.1;omega
theorem VX.ext {p : Vb} (ho : VOk p) {x a : Nat} {v : U} (h : VX p x a v) : ∃ path st v',If.To (pf p) path x st ∧ Lt p path a v' ∧ leV v' v:=by
 induction h with
 | main => exact ⟨[],[],botV,by unfold If.To;rw [runS,main_nat ho];rfl,.nil,leV_refl _⟩
 | @call x a k q X v _ hk h2 hq hX ih =>
   obtain ⟨path,st,v',t1,t2,t3⟩:=ih
   obtain ⟨more,v2,u1,u2,u3⟩:=hX.ext ho path st v' t1 t2
   refine ⟨path ++ more ++ [(k : Int)],_,app (xd q) v2,u1.more (If.step_call ho.pf hk h2 st),.snoc u2 hq,?_⟩
   rw [app_comp]
   exact app_mono (le_refl _) (leV_trans u3 (app_mono (le_refl _) t3))
theorem way_path {p : Vb} (ho : VOk p) {n d : Nat} {u : U} (h : Wy p n d u) : ∃ path st v',If.To (pf p) path n st ∧ Lt p path d v' ∧ leV v' u:=by
 obtain ⟨x,a,X,v,hX,hv,rfl⟩:=h
 obtain ⟨path,st,v1,t1,t2,t3⟩:=hv.ext ho
 obtain ⟨more,v2,u1,u2,u3⟩:=hX.ext ho path st v1 t1 t2
 exact ⟨_,_,v2,u1,u2,leV_trans u3 (app_mono (le_refl _) t3)⟩
def Fs (p : Vb) : List Int → Nat → Nat → U → Prop
 | [],x,a,v => x = p.mn.toNat ∧ a = 0 ∧ v = botV
 | s :: st,x,a,v => ∃ x' a' v' c q X,Fs p st x' a' v' ∧ c < p.es.length ∧ (ge p.es c).k = 2 ∧ q ∈ gl p.fl c ∧ PX p x' a' (ge p.es c).a.toNat q.i.toNat X ∧ s = (ge p.es c).a ∧ x = (ge p.es c).b.toNat ∧ a = q.o.toNat ∧ v = app (comp X (xd q)) v'
def Zs (p : Vb) : List Int → Nat → Prop
 | [],x => x = p.mn.toNat
 | s :: st,x => ∃ x' c,Zs p st x' ∧ c < p.es.length ∧ (ge p.es c).k = 2 ∧ PX p x' 0 (ge p.es c).a.toNat 0 shift ∧ s = (ge p.es c).a ∧ x = (ge p.es c).b.toNat
theorem Fs.vx {p : Vb} : ∀ {st : List Int} {x a : Nat} {v : U},Fs p st x a v → VX p x a v
 | [],_,_,_,h => by obtain ⟨rfl,rfl,rfl⟩:=h;exact .main
 | _ :: _,_,_,_,h => by
   obtain ⟨x',a',v',c,q,X,h1,h2,h3,h4,h5,-,rfl,rfl,rfl⟩:=h
   exact .call h1.vx h2 h3 h4 h5
theorem Zs.fs {p : Vb} (ho : VOk p) : ∀ {st : List Int} {x : Nat},Zs p st x → Fs p st x 0 botV
 | [],_,h => ⟨h,rfl,rfl⟩
 | _ :: _,_,h => by
   obtain ⟨x',c,h1,h2,h3,h4,e1,e2⟩:=h
   obtain ⟨f1,f2⟩:=xd_first ho h2
   exact ⟨x',0,botV,c,_,shift,h1.fs ho,h2,h3,f1,h4,e1,e2,rfl,by rw [f2,comp_shift,shift_app]⟩
theorem zero_way {p : Vb} (ho : VOk p) : ∀ (m : Nat) (path : List Int) (n : Int) (st : List Int),path.length = m → runS p.es p.mn [] path = (0,n,st) → ∃ x,Zs p st x ∧ PX p x 0 n.toNat 0 shift
 | 0,path,n,st,hl,h => by
   obtain rfl : path = []:=List.length_eq_zero_iff.1 hl
   rw [runS] at h
   injection h with _ h
   injection h with h1 h2
   subst h1 h2
   exact ⟨_,rfl,.main⟩
 | m + 1,path,n,st,hl,h => by
   rcases List.eq_nil_or_concat path with e | ⟨q,k,e⟩
   · rw [e] at hl;simp at hl
   · rw [List.concat_eq_append] at e
     subst e
     obtain ⟨n1,st1,h1,h2⟩:=to_snoc h
     obtain ⟨x,hz,hx⟩:=zero_way ho m q n1 st1 (by simpa using hl) h1
     obtain ⟨j,rfl,hj,ha,rfl,hc⟩:=step_cases h2
     subst ha
     obtain ⟨f1,f2⟩:=xd_first ho hj
     rcases hc with ⟨h3,rfl⟩ | ⟨h3,rfl⟩ | ⟨h3,h4,h5,rfl⟩
     · obtain ⟨x',c,z1,z2,z3,z4,e1,rfl⟩:=hz
       obtain ⟨g1,g2⟩:=xd_first ho z2
       have h9:=PX.ret (a:=0) (q:=⟨0,0,2,0,0⟩) (s:=⟨0,0,2,0,0⟩) z2 z3 g1 hj h3 f1 e1.symm z4 hx
       rw [f2,comp_shift,comp_shift,comp_shift] at h9
       exact ⟨x',z1,h9⟩
     · have h9:=PX.call (q:=⟨0,0,2,0,0⟩) hj h3 f1 hx shift_ne (by rw [f2];exact shift_ne)
       exact ⟨_,⟨x,j,hz,hj,h3,hx,rfl,rfl⟩,h9⟩
     · have h9:=PX.flow (q:=⟨0,0,2,0,0⟩) hj (kind_in ho hj h3 h4 h5) f1 hx
       rw [f2,comp_shift] at h9
       exact ⟨x,hz,h9⟩
theorem trail_way {p : Vb} (ho : VOk p) {path : List Int} {d : Nat} {v : U} (h : Lt p path d v) : ∀ (n : Int) (st : List Int),runS p.es p.mn [] path = (0,n,st) → v = topV ∨ ∃ x a X v0,Fs p st x a v0 ∧ PX p x a n.toNat d X ∧ app X v0 = v:=by
 induction h with
 | nil =>
   intro n st h
   rw [runS] at h
   injection h with _ h
   injection h with h1 h2
   subst h1 h2
   exact .inr ⟨_,0,shift,botV,⟨rfl,rfl,rfl⟩,.main,shift_app _⟩
 | @nils s hs hn =>
   intro n st h
   rw [runS] at h
   injection h with _ h
   injection h with h1 h2
   subst h1 h2
   have h9:=PX.seed (s:=s) (x:=p.mn.toNat) (X:=shift) (by rw [hn];exact .main) shift_ne hs
   rw [hn] at h9
   exact .inr ⟨_,0,sx s,botV,⟨rfl,rfl,rfl⟩,h9,rfl⟩
 | @snoc path k q v _ hq ih =>
   intro n st h
   obtain ⟨n1,st1,h1,h2⟩:=to_snoc h
   obtain ⟨j,ej,hj,ha,rfl,hc⟩:=step_cases h2
   obtain rfl : k = j:=by omega
   subst ha
   rcases ih _ _ h1 with rfl | ⟨x,a,X,v0,hF,hX,rfl⟩
   · exact .inl (app_topV _)
   rcases hc with ⟨h3,rfl⟩ | ⟨h3,rfl⟩ | ⟨h3,h4,h5,rfl⟩
   · obtain ⟨x',a',v',c,q',X',f1,f2,f3,f4,f5,e1,rfl,rfl,rfl⟩:=hF
     exact .inr ⟨x',a',_,v',f1,.ret f2 f3 f4 hj h3 hq e1.symm f5 hX,by simp only [app_comp]⟩
   · by_cases hXt : X = top
     · left;rw [hXt,top_app,app_topV]
     · by_cases hqt : xd q = top
       · left;rw [hqt,top_app]
       · exact .inr ⟨_,_,shift,app (comp X (xd q)) v0,⟨x,a,v0,k,q,X,hF,hj,h3,hq,hX,rfl,rfl,rfl,rfl⟩,.call hj h3 hq hX hXt hqt,by rw [shift_app,app_comp]⟩
   · exact .inr ⟨x,a,comp X (xd q),v0,hF,.flow hj (kind_in ho hj h3 h4 h5) hq hX,app_comp _ _ _⟩
 | @seed path k s hs hn =>
   intro n st h
   obtain ⟨x,hz,hx⟩:=zero_way ho _ _ n st rfl h
   obtain ⟨n1,st1,h1,h2⟩:=to_snoc h
   obtain ⟨j,ej,hj,ha,rfl,hc⟩:=step_cases h2
   obtain rfl : k = j:=by omega
   have h9:=PX.seed (s:=s) (x:=x) (X:=shift) (by rw [hn];exact hx) shift_ne hs
   rw [hn] at h9
   exact .inr ⟨x,0,sx s,botV,hz.fs ho,h9,rfl⟩
theorem run_in9 {p : Vb} (ho : VOk p) {path : List Int} {n : Int} {st : List Int} (h : runS p.es p.mn [] path = (0,n,st)) : 0 ≤ n ∧ n < p.ns.length:=by
 rcases List.eq_nil_or_concat path with e | ⟨q,k,e⟩
 · subst e
   rw [runS] at h
   injection h with _ h
   injection h with h1 _
   have:=If.main_in (If.sup_parts ho.sup).2.2.1
   omega
 · rw [List.concat_eq_append] at e
   subst e
   obtain ⟨n1,st1,-,h2⟩:=to_snoc h
   obtain ⟨j,-,hj,-,rfl,-⟩:=step_cases h2
   have:=If.sup_edge ho.sup hj
   omega
theorem sol_paths {p : Vb} (ho : VOk p) {S : Nat → Nat → U} (hS : IsSol p S) (Lp : List Int → Nat → U) (hL : ∀ path n st d,runS p.es p.mn [] path = (0,n,st) → d < p.F.toNat → Glb (Lt p path d) (Lp path d)) :
   (∀ path n st d,runS p.es p.mn [] path = (0,n,st) → d < p.F.toNat → leV (S n.toNat d) (Lp path d)) ∧ ∀ n d,n < p.ns.length → d < p.F.toNat → Glb (fun u => ∃ path st,runS p.es p.mn [] path = (0,(n : Int),st) ∧ u = Lp path d) (S n d):=by
 have h1 : ∀ path n st d,runS p.es p.mn [] path = (0,n,st) → d < p.F.toNat → leV (S n.toNat d) (Lp path d):=fun path n st d h hd => by
   refine (hL path n st d h hd).2 _ fun v hv => ?_
   rcases trail_way ho hv n st h with rfl | ⟨x,a,X,v0,hF,hX,rfl⟩
   · exact leV_top _
   · have:=run_in9 ho h
     exact (sol_ways ho hS (n:=n.toNat) (by omega) hd).1 _ ⟨x,a,X,v0,hX,hF.vx,rfl⟩
 refine ⟨h1,fun n d hn hd => ⟨fun u ⟨path,st,h,e⟩ => ?_,fun z hz => (sol_ways ho hS hn hd).2 z fun u hu => ?_⟩⟩
 · have h9:=h1 path n st d h hd
   rw [Int.toNat_natCast] at h9
   rw [e]
   exact h9
 · obtain ⟨path,st,v',t1,t2,t3⟩:=way_path ho hu
   exact leV_trans (hz _ ⟨path,st,t1,rfl⟩) (leV_trans ((hL path n st d t1 hd).1 _ t2) t3)
end Iv
end Go.Df
namespace Go.Df
open Go.RowKit
namespace Iv
open Sp
open Go.Proofs.YtincpmdldpakkaaGreatDoor (metS prS afterS bot0 runJ)
abbrev rmV:=Go.Proofs.YtincpmdldpakkaaGreatDoor.Xf.rmeetV
abbrev raV:=Go.Proofs.YtincpmdldpakkaaGreatDoor.Xf.rapply
theorem rmeet_U (v w : U) : rmV v.1 w.1 = (meetV v w).1:=Go.Proofs.YtincpmdldpakkaaGreatDoor.Xf.meetV_eq v.2.1 w.2.1
theorem rapp_U (x : D) (v : U) : raV x.1 v.1 = (app x v).1:=Go.Proofs.YtincpmdldpakkaaGreatDoor.Xf.apply_eq x.2.1 v.2.1
theorem sdVal_val {s : Vs} (h : verr s.k s.v = 0) (hw : wrap64 s.v = s.v) : (sdVal s).1 = ⟨s.k,s.v⟩:=by
 show Go.Proofs.YtincpmdldpakkaaGreatDoor.Xf.apply (sx s).1 ⟨2,0⟩ = ⟨s.k,s.v⟩
 unfold verr at h
 split at h
 · cases h
 · split at h
   · cases h
   · rename_i h1 h2
     by_cases hk : s.k = 1
     · have e : sx s = mkD ⟨1,0,s.v⟩ ⟨check_const s.v,wrap_zero,hw⟩:=by unfold sx;rw [if_pos hk,dif_pos hw]
       rw [e]
       show Go.Proofs.YtincpmdldpakkaaGreatDoor.Xf.apply ⟨1,0,s.v⟩ ⟨2,0⟩ = _
       simp [Go.Proofs.YtincpmdldpakkaaGreatDoor.Xf.apply,hk]
     · have hv : s.v = 0:=by omega
       by_cases hk2 : s.k = 2
       · have e : sx s = bot:=by unfold sx;rw [if_neg hk,if_pos hk2]
         rw [e]
         show Go.Proofs.YtincpmdldpakkaaGreatDoor.Xf.apply ⟨4,0,0⟩ ⟨2,0⟩ = _
         simp [Go.Proofs.YtincpmdldpakkaaGreatDoor.Xf.apply,hk2,hv]
       · have hk0 : s.k = 0:=by omega
         have e : sx s = top:=by unfold sx;rw [if_neg hk,if_neg hk2]
         rw [e]
         show Go.Proofs.YtincpmdldpakkaaGreatDoor.Xf.apply ⟨0,0,0⟩ ⟨2,0⟩ = _
         simp [Go.Proofs.YtincpmdldpakkaaGreatDoor.Xf.apply,hk0,hv]
theorem Glb.or {S S' : U → Prop} {v u : U} (h : Glb S v) (k : Glb S' u) : Glb (fun x => S x ∨ S' x) (meetV v u):=by
 refine ⟨fun x hx => ?_,fun z hz => le_meetV (h.2 z fun x hx => hz x (.inl hx)) (k.2 z fun x hx => hz x (.inr hx))⟩
 rcases hx with hx | hx
 · exact leV_trans (meetV_le_left v u) (h.1 x hx)
 · exact leV_trans (meetV_le_right v u) (k.1 x hx)
theorem Glb.app {S : U → Prop} {g : U} (h : Glb S g) (X : D) : Glb (fun u => ∃ v,S v ∧ u = app X v) (Iv.app X g):=by
 refine ⟨fun u ⟨v,hv,e⟩ => ?_,fun z hz => glbV_map h (fun v => Iv.app X v) (fun x y => app_meetV X x y) (app_topV X) (fun x hx => hz _ ⟨x,hx,rfl⟩)⟩
 rw [e]
 exact app_mono (le_refl X) (h.1 v hv)
theorem met_glb {p : Vb} (ho : VOk p) (hf : VFit p) {L : Nat → U} {S : Nat → U → Prop} (h2 : ∀ i,Glb (S i) (L i)) (nd : Int) : ∀ j,j ≤ p.sd.length →
   ∃ L' : Nat → U,(∀ i,(L' i).1 = metS rmV p.sd nd (fun d => (L d).1) j i) ∧ ∀ i,Glb (fun u => S i u ∨ ∃ x,x < j ∧ (gs p.sd x).n = nd ∧ (gs p.sd x).f.toNat = i ∧ u = sdVal (gs p.sd x)) (L' i)
 | 0, _ => ⟨L, fun _ => rfl, fun i => (h2 i).iff fun x => ⟨fun h => by
     rcases h with h | ⟨y,hy,_⟩
     · exact h
     · exact absurd hy (Nat.not_lt_zero _),.inl⟩⟩
 | j + 1,hj => by
   obtain ⟨L',e1,e2⟩:=met_glb ho hf h2 nd j (by omega)
   have hm:=gs_mem (l:=p.sd) (i:=j) (by omega)
   have hv:=sdVal_val (ho.seed hm).2.2.2.2 (hf.sd _ hm)
   refine ⟨fun i => if (gs p.sd j).n = nd ∧ i = (gs p.sd j).f.toNat then meetV (L' i) (sdVal (gs p.sd j)) else L' i,fun i => ?_,fun i => ?_⟩
   · show (if (gs p.sd j).n = nd ∧ i = (gs p.sd j).f.toNat then meetV (L' i) (sdVal (gs p.sd j)) else L' i).1 = _
     rw [metS]
     by_cases hc : (gs p.sd j).n = nd ∧ i = (gs p.sd j).f.toNat
     · rw [if_pos hc,if_pos hc,← rmeet_U,e1,hv]
     · rw [if_neg hc,if_neg hc];exact e1 i
   · dsimp only
     split
     · rename_i hc
       refine (e2 i).add fun x => ⟨fun h => ?_,fun h => ?_⟩
       · rcases h with h | ⟨y,hy,a,b,c⟩
         · exact .inl (.inl h)
         · by_cases e : y = j
           · subst e;exact .inr c
           · exact .inl (.inr ⟨y,by omega,a,b,c⟩)
       · rcases h with (h | ⟨y,hy,a,b,c⟩) | h
         · exact .inl h
         · exact .inr ⟨y,by omega,a,b,c⟩
         · exact .inr ⟨j,by omega,hc.1,hc.2.symm,h⟩
     · rename_i hc
       refine (e2 i).iff fun x => ⟨fun h => ?_,fun h => ?_⟩
       · rcases h with h | ⟨y,hy,a,b,c⟩
         · exact .inl h
         · by_cases e : y = j
           · subst e;exact absurd ⟨a,b.symm⟩ hc
           · exact .inr ⟨y,by omega,a,b,c⟩
       · rcases h with h | ⟨y,hy,a,b,c⟩
         · exact .inl h
         · exact .inr ⟨y,by omega,a,b,c⟩
theorem pr_glb {p : Vb} (ho : VOk p) (hf : VFit p) {L : Nat → U} {S : Nat → U → Prop} (h2 : ∀ i,Glb (S i) (L i)) (k : Nat) : ∀ j,j ≤ (gl p.fl k).length →
   ∃ L' : Nat → U,(∀ i,(L' i).1 = prS rmV raV (gl p.fl k) (fun d => (L d).1) j i) ∧ ∀ i,Glb (fun u => ∃ x,x < j ∧ (gx (gl p.fl k) x).o.toNat = i ∧ ∃ v,S (gx (gl p.fl k) x).i.toNat v ∧ u = app (xd (gx (gl p.fl k) x)) v) (L' i)
 | 0,_ => ⟨fun _ => topV,fun _ => rfl,fun i => Glb.none fun u ⟨x,hx,_⟩ => Nat.not_lt_zero _ hx⟩
 | j + 1,hj => by
   obtain ⟨L',e1,e2⟩:=pr_glb ho hf h2 k j (by omega)
   have hm:=gx_mem (l:=gl p.fl k) (i:=j) (by omega)
   have hv:=xd_of ho hf hm
   refine ⟨fun i => if i = (gx (gl p.fl k) j).o.toNat then meetV (L' i) (app (xd (gx (gl p.fl k) j)) (L (gx (gl p.fl k) j).i.toNat)) else L' i,fun i => ?_,fun i => ?_⟩
   · show (if i = (gx (gl p.fl k) j).o.toNat then meetV (L' i) (app (xd (gx (gl p.fl k) j)) (L (gx (gl p.fl k) j).i.toNat)) else L' i).1 = _
     rw [prS]
     by_cases hc : i = (gx (gl p.fl k) j).o.toNat
     · rw [if_pos hc,if_pos hc,← rmeet_U,← rapp_U,e1,hv]
     · rw [if_neg hc,if_neg hc];exact e1 i
   · dsimp only
     split
     · rename_i hc
       refine ((e2 i).or ((h2 (gx (gl p.fl k) j).i.toNat).app (xd (gx (gl p.fl k) j)))).iff fun x => ⟨fun ⟨y,hy,a,v,b,c⟩ => ?_,fun h => ?_⟩
       · by_cases e : y = j
         · subst e;exact .inr ⟨v,b,c⟩
         · exact .inl ⟨y,by omega,a,v,b,c⟩
       · rcases h with ⟨y,hy,a,v,b,c⟩ | ⟨v,b,c⟩
         · exact ⟨y,by omega,a,v,b,c⟩
         · exact ⟨j,by omega,hc.symm,v,b,c⟩
     · rename_i hc
       refine (e2 i).iff fun x => ⟨fun ⟨y,hy,a,v,b,c⟩ => ?_,fun ⟨y,hy,a,v,b,c⟩ => ⟨y,by omega,a,v,b,c⟩⟩
       by_cases e : y = j
       · subst e;exact absurd a.symm hc
       · exact ⟨y,by omega,a,v,b,c⟩
theorem runJ_app {me : Go.Proofs.YtincpmdldpakkaaGreatDoor.Xf.V → Go.Proofs.YtincpmdldpakkaaGreatDoor.Xf.V → Go.Proofs.YtincpmdldpakkaaGreatDoor.Xf.V} {ap : Go.Proofs.YtincpmdldpakkaaGreatDoor.Xf.X → Go.Proofs.YtincpmdldpakkaaGreatDoor.Xf.V → Go.Proofs.YtincpmdldpakkaaGreatDoor.Xf.V} {es : List Ed} {ls : List (List Xp)} {sd : List Vs} {mn : Int} (path r : List Int) :
   ∀ j,j ≤ path.length → runJ me ap es ls sd mn (path ++ r) j = runJ me ap es ls sd mn path j
 | 0,_ => rfl
 | j + 1,h => by
   have e : gi (path ++ r) j = gi path j:=by simp [gi,List.getElem?_append_left (show j < path.length by omega)]
   rw [runJ,runJ,runJ_app path r j (by omega),e]
theorem lt_inv {p : Vb} {pth : List Int} {d : Nat} {u : U} (h : Lt p pth d u) :
   (pth = [] ∧ ((d = 0 ∧ u = botV) ∨ ∃ s ∈ p.sd,s.n = p.mn ∧ d = s.f.toNat ∧ u = sdVal s)) ∨
   ∃ path,∃ k : Nat,pth = path ++ [(k : Int)] ∧ ((∃ q v,Lt p path q.i.toNat v ∧ q ∈ gl p.fl k ∧ d = q.o.toNat ∧ u = app (xd q) v) ∨ ∃ s ∈ p.sd,s.n = (ge p.es k).b ∧ d = s.f.toNat ∧ u = sdVal s):=by
 cases h with
 | nil => exact .inl ⟨rfl,.inl ⟨rfl,rfl⟩⟩
 | nils h1 h2 => exact .inl ⟨rfl,.inr ⟨_,h1,h2,rfl,rfl⟩⟩
 | snoc h1 h2 => exact .inr ⟨_,_,rfl,.inl ⟨_,_,h1,h2,rfl,rfl⟩⟩
 | seed h1 h2 => exact .inr ⟨_,_,rfl,.inr ⟨_,h1,h2,rfl,rfl⟩⟩
theorem along_glb {p : Vb} (ho : VOk p) (hf : VFit p) : ∀ (m : Nat) (path : List Int),path.length = m → (∀ j,j < path.length → 0 ≤ gi path j) →
   ∃ L : Nat → U,(∀ d,(L d).1 = runJ rmV raV p.es p.fl p.sd p.mn path path.length d) ∧ ∀ d,Glb (Lt p path d) (L d)
 | 0,path,hm,_ => by
   obtain rfl : path = []:=List.length_eq_zero_iff.1 hm
   obtain ⟨L,e1,e2⟩:=met_glb (L:=fun i => if i = 0 then botV else topV) (S:=fun i u => i = 0 ∧ u = botV) ho hf (fun i => by
     by_cases h0 : i = 0
     · subst h0
       exact ⟨fun u hu => by rw [hu.2];exact leV_refl _,fun z hz => hz _ ⟨rfl,rfl⟩⟩
     · rw [if_neg h0]
       exact Glb.none fun u hu => h0 hu.1) p.mn p.sd.length (Nat.le_refl _)
   refine ⟨L,fun d => ?_,fun d => (e2 d).iff fun x => ⟨fun h => ?_,fun h => ?_⟩⟩
   · rw [e1 d]
     show _ = metS rmV p.sd p.mn bot0 p.sd.length d
     congr 1
     funext i
     unfold bot0
     by_cases h0 : i = 0 <;> simp [h0,botV,topV]
   · rcases lt_inv h with ⟨-,⟨h1,h2⟩ | ⟨s,h1,h2,h3,h4⟩⟩ | ⟨path,k,h1,_⟩
     · exact .inl ⟨h1,h2⟩
     · obtain ⟨y,hy,rfl⟩:=List.getElem_of_mem h1
       have e9:=gs_lt hy
       exact .inr ⟨y,hy,by rw [e9];exact h2,by rw [e9];exact h3.symm,by rw [e9];exact h4⟩
     · simp at h1
   · rcases h with ⟨rfl,rfl⟩ | ⟨y,hy,a,b,rfl⟩
     · exact .nil
     · subst b
       exact .nils (gs_mem hy) a
 | m + 1,path,hm,hr => by
   rcases List.eq_nil_or_concat path with rfl | ⟨q,k,e⟩
   · simp at hm
   rw [List.concat_eq_append] at e
   subst e
   have hq : q.length = m:=by simpa using hm
   have ek : gi (q ++ [k]) q.length = k:=by simp [gi]
   have hk:=hr q.length (by simp)
   rw [ek] at hk
   obtain ⟨k,rfl⟩ : ∃ j : Nat,k = j:=⟨k.toNat,by omega⟩
   obtain ⟨L,e1,e2⟩:=along_glb ho hf m q hq (fun j hj => by
     have h9:=hr j (by simp;omega)
     have e : gi (q ++ [(k : Int)]) j = gi q j:=by simp [gi,List.getElem?_append_left hj]
     rw [e] at h9
     exact h9)
   obtain ⟨L1,f1,f2⟩:=pr_glb ho hf e2 k _ (Nat.le_refl _)
   obtain ⟨L2,g1,g2⟩:=met_glb ho hf f2 (ge p.es k).b _ (Nat.le_refl _)
   refine ⟨L2,fun d => ?_,fun d => (g2 d).iff fun x => ⟨fun h => ?_,fun h => ?_⟩⟩
   · rw [g1 d,List.length_append,List.length_singleton,runJ,ek,Int.toNat_natCast,runJ_app q _ _ (Nat.le_refl _),afterS]
     congr 1
     funext i
     rw [f1 i]
     congr 1
     funext i
     exact e1 i
   · rcases lt_inv h with ⟨h1,_⟩ | ⟨path,k',h1,h2⟩
     · simp at h1
     · obtain ⟨rfl,h3⟩:=List.append_inj' h1 rfl
       obtain rfl : k = k':=by have:=(List.cons.inj h3).1;omega
       rcases h2 with ⟨z,v,h3,h4,h5,h6⟩ | ⟨s,h1,h2,h3,h4⟩
       · obtain ⟨y,hy,rfl⟩:=List.getElem_of_mem h4
         have e9:=gx_lt hy
         exact .inl ⟨y,hy,by rw [e9];exact h5.symm,v,by rw [e9];exact h3,by rw [e9];exact h6⟩
       · obtain ⟨y,hy,rfl⟩:=List.getElem_of_mem h1
         have e9:=gs_lt hy
         exact .inr ⟨y,hy,by rw [e9];exact h2,by rw [e9];exact h3.symm,by rw [e9];exact h4⟩
   · rcases h with ⟨y,hy,a,v,b,rfl⟩ | ⟨y,hy,a,b,rfl⟩
     · subst a
       exact .snoc b (gx_mem hy)
     · subst b
       exact .seed (gs_mem hy) a
end Iv
end Go.Df
