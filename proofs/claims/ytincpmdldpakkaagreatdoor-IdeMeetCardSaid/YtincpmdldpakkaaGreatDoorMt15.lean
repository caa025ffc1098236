/- Texts: Lf Ok Bw. -/
import Derived.Test.YtincpmdldpakkaaGreatDoorMt06
import Derived.Test.YtincpmdldpakkaaGreatDoorMt07
namespace Go.Df
open Go
def Grow (w : World) (t : Nat → Nat) (w' : World) (t' : Nat → Nat) : Prop:=Kept [] w w' ∧ ∀ g,g < w.heap.size → t' g = t g
theorem Grow.refl (w : World) (t : Nat → Nat) : Grow w t w t:=⟨Kept.refl _ _,fun _ _ => rfl⟩
theorem Grow.trans {w w' w'' : World} {t t' t'' : Nat → Nat} (h : Grow w t w' t') (h' : Grow w' t' w'' t'') : Grow w t w'' t'' :=
 ⟨keptTrans h.1 h'.1,fun g hg => (h'.2 g (Nat.lt_of_lt_of_le hg h.1.size)).trans (h.2 g hg)⟩
def mark (t : Nat → Nat) (g m : Nat) : Nat → Nat:=fun x => if x = g then m else t x
theorem mark_same (t : Nat → Nat) (g m : Nat) : mark t g m g = m:=if_pos rfl
theorem Grow.mark {w w' : World} {t : Nat → Nat} {g m : Nat} (h : Kept [] w w') (hg : w.heap.size ≤ g) : Grow w t w' (Go.Df.mark t g m) :=
 ⟨h,fun x hx => if_neg (by omega)⟩
structure BlkT (w : World) (t : Nat → Nat) (g : Nat) (C : List Value) (m : Nat) : Prop where
 blk : Blk w g C
 tag : t g = m
section
variable {P : Program} {Q : Exit → Act → World → Prop} {md : Region.Mode} {S : World → Prop} {n : Nat} {l : List Oper}
def dstOf (l : List Oper) (j : Nat) : Option Tmp:=(l[j]?).bind (·.dst)
def putU (l : List Oper) : List Nat → (Nat → Value) → Act → Act
 | [],_,a => a
 | j :: U,vs,a => putU l U vs (a.put (dstOf l j) (vs j))
theorem putU_congr : ∀ (U : List Nat) {vs us : Nat → Value} {a : Act},(∀ j ∈ U,vs j = us j) → putU l U vs a = putU l U us a
 | [],_,_,_,_ => rfl
 | j :: U,vs,us,a,h => by
   rw [putU,putU,h j (by simp)]
   exact putU_congr U (fun i hi => h i (by simp [hi]))
theorem put_put (a : Act) (x : Option Tmp) (u v : Value) : (a.put x u).put x v = a.put x v:=by
 cases x with
 | none => rfl
 | some d => simp [Act.put]
theorem putU_comm {x : Option Tmp} {v : Value} : ∀ (U : List Nat) {vs : Nat → Value} {a : Act},(∀ j ∈ U,dstOf l j ≠ x) → (putU l U vs a).put x v = putU l U vs (a.put x v)
 | [],_,_,_ => rfl
 | j :: U,vs,a,h => by
   rw [putU,putU,putU_comm U (fun i hi => h i (by simp [hi])),Act.put_comm a (vs j) v (fun d hd => by rw [← hd];exact (h j (by simp)).symm)]
def upd (vs : Nat → Value) (i : Nat) (v : Value) : Nat → Value:=fun j => if j = i then v else vs j
theorem putU_upd {i : Nat} {v : Value} : ∀ (U : List Nat) {vs : Nat → Value} {a : Act},i ∈ U → U.Pairwise (fun x y => dstOf l x ≠ dstOf l y ∧ x ≠ y) → (putU l U vs a).put (dstOf l i) v = putU l U (upd vs i v) a
 | j :: U,vs,a,hi,hp => by
   obtain ⟨h1,h2⟩:=List.pairwise_cons.1 hp
   by_cases e : j = i
   · subst e
     rw [putU,putU,putU_comm U (fun y hy => (h1 y hy).1.symm),put_put]
     rw [show upd vs j v j = v from if_pos rfl]
     exact putU_congr U (fun y hy => (if_neg (h1 y hy).2.symm).symm)
   · have hi' : i ∈ U:=by simpa [Ne.symm e] using hi
     rw [putU,putU,putU_upd U hi' h2,show upd vs i v j = vs j from if_neg e]
theorem put_self (a : Act) (x : Option Tmp) : ∃ v,a.put x v = a:=by
 cases x with
 | none => exact ⟨undef,rfl⟩
 | some d =>
   refine ⟨a.tmps.getD d undef,?_⟩
   unfold Act.put
   dsimp only
   rcases Nat.lt_or_ge d a.tmps.size with h | h
   · have : a.tmps.setIfInBounds d (a.tmps.getD d undef) = a.tmps := by
       rw [Array.setIfInBounds_def,dif_pos h]
       simp [h]
     rw [this]
   · rw [Array.setIfInBounds_eq_of_size_le h]
theorem putU_self : ∀ (U : List Nat) (a : Act),U.Pairwise (fun x y => dstOf l x ≠ dstOf l y ∧ x ≠ y) → ∃ vs,putU l U vs a = a
 | [],_,_ => ⟨fun _ => undef,rfl⟩
 | j :: U,a,hp => by
   obtain ⟨h1,h2⟩:=List.pairwise_cons.1 hp
   obtain ⟨vs,hv⟩:=putU_self U a h2
   obtain ⟨v,hw⟩:=put_self a (dstOf l j)
   refine ⟨upd vs j v,?_⟩
   rw [putU,show upd vs j v j = v from if_pos rfl,hw]
   exact (putU_congr (vs:=upd vs j v) (us:=vs) U (fun y hy => if_neg (h1 y hy).2.symm)).trans hv
def HypsR (R : Nat → Value → World → (Nat → Nat) → Prop) (vs : Nat → Value) (w : World) (t : Nat → Nat) : List Nat → Prop
 | [] => True
 | j :: D => R j (vs j) w t ∧ HypsR R vs w t D
theorem HypsR.of {R : Nat → Value → World → (Nat → Nat) → Prop} {vs : Nat → Value} {w : World} {t : Nat → Nat} : ∀ (D : List Nat),(∀ j ∈ D,R j (vs j) w t) → HypsR R vs w t D
 | [],_ => trivial
 | j :: D,h => ⟨h j (by simp),HypsR.of D (fun i hi => h i (by simp [hi]))⟩
def ObR (P : Program) (md : Region.Mode) (Q : Exit → Act → World → Prop) (l : List Oper) (U : List Nat) (R : Nat → Value → World → (Nat → Nat) → Prop) (fr : (Nat → Value) → Act) (w0 : World) (t0 : Nat → Nat) (j : Nat) : Prop :=
 ∃ o post,l.drop j = o :: post ∧ ∃ D : List Nat,(D.all fun i => Region.waitsFor md l.toArray j i && U.contains i) = true ∧ ∀ vs w t,Grow w0 t0 w t → HypsR R vs w t D → ∀ K' : Act → World → Prop,Shut (∀ v a2 w2 t2,a2 = (fr vs).put o.dst v → Grow w t w2 t2 → R j v w2 t2 → K' a2 w2) →
   if Region.wanted o (yielded l.toArray (fr vs).tmps) = true then Oper.wp P o (fr vs) w K' Q else K' ((fr vs).put o.dst undef) w
def ObsR (P : Program) (md : Region.Mode) (Q : Exit → Act → World → Prop) (l : List Oper) (U0 : List Nat) (R : Nat → Value → World → (Nat → Nat) → Prop) (fr : (Nat → Value) → Act) (w0 : World) (t0 : Nat → Nat) : List Nat → Prop
 | [] => True
 | j :: U => ObR P md Q l U0 R fr w0 t0 j ∧ ObsR P md Q l U0 R fr w0 t0 U
theorem ObsR.get {U0 : List Nat} {R : Nat → Value → World → (Nat → Nat) → Prop} {fr : (Nat → Value) → Act} {w0 : World} {t0 : Nat → Nat} : ∀ {U : List Nat},ObsR P md Q l U0 R fr w0 t0 U → ∀ {j : Nat},j ∈ U → ObR P md Q l U0 R fr w0 t0 j
 | i :: U,h,j,hj => by
   rcases List.mem_cons.1 hj with rfl | hj
   · exact h.1
   · exact ObsR.get h.2 hj
def openB (md : Region.Mode) (l : List Oper) (n : Nat) (U : List Nat) (listed : Array Bool) : Bool :=
 lastB md l.toArray n && decide (l.length = n + 1) && ((List.range n).all fun j => U.contains j == !listed.getD j true) && (U.all fun j => decide (j < n)) && decide (U.Pairwise (fun x y => dstOf l x ≠ dstOf l y ∧ x ≠ y)) &&
   ((List.range l.length).all fun i => match l[i]? with | some o => o.after.all (fun e => !Region.binds md e || decide (e.on < i)) | none => true)
def unl (l : List Oper) (listed : Array Bool) : List Nat:=(List.range l.length).filter fun j => !listed.getD j true
theorem unl_set {listed : Array Bool} {i : Nat} (hi : listed.getD i true = false) (hl : i < l.length) : (unl l (listed.setIfInBounds i true)).length + 1 ≤ (unl l listed).length:=by
 unfold unl
 have h1 : ∀ j ∈ List.range l.length,(!(listed.setIfInBounds i true).getD j true) = (!listed.getD j true && (j != i)):=fun j hj => by
   by_cases e : i = j
   · subst e
     have : (listed.setIfInBounds i true).getD i true = true:=by
       rcases Nat.lt_or_ge i listed.size with h | h
       · simp [h]
       · simp [h]
     rw [this];simp
   · rw [getD_set_ne true e]
     have : (j != i) = true:=by simpa using Ne.symm e
     rw [this,Bool.and_true]
 rw [List.filter_congr h1]
 rw [show (fun j => !listed.getD j true && (j != i)) = fun j => (fun j => !listed.getD j true) j && (j != i) from rfl]
 rw [← List.filter_filter]
 have hm : i ∈ (List.range l.length).filter (fun j => !listed.getD j true):=by
   rw [List.mem_filter]
   exact ⟨List.mem_range.2 hl,by rw [hi];rfl⟩
 generalize hL : (List.range l.length).filter (fun j => !listed.getD j true) = L at hm
 have hlt : (L.filter (fun j => j != i)).length < L.length:=by
   rcases Nat.lt_or_ge (L.filter (fun j => j != i)).length L.length with h | h
   · exact h
   · have h2:=List.length_filter_le (fun j => j != i) L
     have h3 : ∀ x ∈ L,(x != i) = true:=List.length_filter_eq_length_iff.1 (by omega)
     have:=h3 i hm
     simp at this
 have hcomm : (List.range l.length).filter (fun j => j != i) = (List.range l.length).filter (fun j => j != i):=rfl
 have : ((List.range l.length).filter (fun j => j != i)).filter (fun j => !listed.getD j true) = L.filter (fun j => j != i):=by
   rw [← hL,List.filter_filter,List.filter_filter]
   exact List.filter_congr (fun x _ => Bool.and_comm _ _)
 first
   | (rw [this];omega)
   | omega
theorem WE_R_go {U : List Nat} {R : Nat → Value → World → (Nat → Nat) → Prop} {fr : (Nat → Value) → Act} {a0 : Act} {w0 : World} {t0 : Nat → Nat}
   (hl : lastB md l.toArray n = true) (hlen : l.length = n + 1) (hUn : ∀ j ∈ U,j < n) (hpw : U.Pairwise (fun x y => dstOf l x ≠ dstOf l y ∧ x ≠ y))
   (hed : ∀ i o,l[i]? = some o → ∀ e ∈ o.after,Region.binds md e = true → e.on < i)
   (hfr : ∀ vs,putU l U vs a0 = fr vs) (hR : ∀ j ∈ U,∀ v w t w' t',R j v w t → Grow w t w' t' → R j v w' t') (hS : ∀ w t,Grow w0 t0 w t → S w)
   (ob : ObsR P md Q l U R fr w0 t0 U)
   {o : Oper} {post : List Oper} (hd : l.drop n = o :: post)
   (last : ∀ vs w t,Grow w0 t0 w t → HypsR R vs w t U → ∀ K' : Act → World → Prop,Shut (∀ a w,Q .normal a w → K' a w) → if Region.wanted o (yielded l.toArray (fr vs).tmps) = true then Oper.wp P o (fr vs) w K' Q else K' ((fr vs).put o.dst undef) w) :
   ∀ (fuel : Nat) (listed : Array Bool) (vs : Nat → Value) (w : World) (t : Nat → Nat),HeadInv md l.toArray n listed → (unl l listed).length ≤ fuel → (∀ j,j < n → listed.getD j true = false → j ∈ U) → Grow w0 t0 w t → (∀ j ∈ U,listed.getD j true = true → R j (vs j) w t) →
     wpAnyE P md l.toArray n Q S fuel listed (fr vs) w:=by
 have hl':=hl
 simp only [lastB,Bool.and_eq_true,decide_eq_true_eq] at hl
 obtain ⟨⟨hs,hc⟩,hn⟩:=hl
 intro fuel
 induction fuel with
 | zero =>
   intro listed vs w t inv hf _ _ _
   have h1:=inv.tail n (Nat.le_refl _) hn
   have h2 : n ∈ unl l listed:=by
     unfold unl
     rw [List.mem_filter]
     exact ⟨List.mem_range.2 (by omega),by rw [h1];rfl⟩
   have:=List.length_pos_of_mem h2
   omega
 | succ fuel ih =>
   intro listed vs w t inv hf hopen hg hRs
   have hsz : listed.size = l.length:=by rw [inv.size];simp
   refine ⟨fun h0 => ?_,fun i hi => ?_⟩
   · -- the least one that is open can come up
     exfalso
     have hex : ∃ j,listed.getD j true = false:=⟨n,inv.tail n (Nat.le_refl _) hn⟩
     have hmin : ∀ k j,j ≤ k → listed.getD j true = false → ∃ i,listed.getD i true = false ∧ ∀ i',i' < i → listed.getD i' true ≠ false:=by
       intro k
       induction k with
       | zero => intro j hj hh;exact ⟨j,hh,fun i' hi' => by omega⟩
       | succ k ihk =>
         intro j hj hh
         by_cases hx : ∃ i',i' < j ∧ listed.getD i' true = false
         · obtain ⟨i',h1,h2⟩:=hx
           exact ihk i' (by omega) h2
         · exact ⟨j,hh,fun i' hi' h2 => hx ⟨i',hi',h2⟩⟩
     obtain ⟨j,hj⟩:=hex
     obtain ⟨i,hi,hlow⟩:=hmin j j (Nat.le_refl _) hj
     have hil : i < l.length:=by
       rcases Nat.lt_or_ge i l.length with h | h
       · exact h
       · have : listed.getD i true = true:=by simp [hsz,h]
         rw [hi] at this;cases this
     have hm : i ∈ Region.ready md l.toArray listed:=by
       refine mem_ready.2 ⟨hi,l[i],by simp [hil],fun e he hb => ?_⟩
       have h1:=hed i l[i] (by simp [hil]) e he hb
       have h2:=hlow e.on h1
       have h3 : listed.getD e.on true = true:=by
         cases hh : listed.getD e.on true with
         | true => rfl
         | false => exact absurd hh h2
       have h4 : e.on < listed.size:=by omega
       simp [h4] at h3 ⊢
       exact h3
     rw [h0] at hm
     cases hm
   · obtain ⟨hiun,oi,hoi,hall⟩:=mem_ready.1 hi
     have hil : i < l.length:=by
       have:=(Array.getElem?_eq_some_iff.1 hoi).1
       simpa using this
     rcases Nat.lt_or_ge i n with hin | hin
     · have hiU:=hopen i hin hiun
       obtain ⟨o',post',hd',D,hD,hob⟩:=ob.get hiU
       have ho' : oi = o':=by
         have:=get_drop hd'
         rw [hoi] at this
         exact Option.some.inj this
       subst ho'
       refine wpOp_step hoi (fun K' hK => hob vs w t hg (HypsR.of D fun j hj => ?_) K' (fun v a2 w2 t2 ha hg2 hr2 => hK a2 w2 ⟨fun _ => hS w2 t2 (hg.trans hg2),?_⟩))
       · have h1:=List.all_eq_true.1 hD j hj
         simp only [Bool.and_eq_true] at h1
         obtain ⟨oj,hoj,e,he,hb,hon⟩:=Region.waitsFor_spec h1.1
         have : oj = oi:=Option.some.inj (hoj.symm.trans hoi)
         subst this
         have h2:=hall e he hb
         rw [hon] at h2
         refine hRs j (by simpa using h1.2) ?_
         cases hh : listed.getD j true with
         | true => rfl
         | false => rw [getD_both hh] at h2;cases h2
       · have hdst : dstOf l i = oi.dst := by
           unfold dstOf
           have : l[i]? = some oi:=by simpa using hoi
           rw [this];rfl
         rw [ha,← hdst,← hfr,putU_upd U hiU hpw,hfr]
         have hun:=unl_set (l:=l) hiun hil
         refine ih (listed.setIfInBounds i true) (upd vs i v) w2 t2 (inv.set hi hin) (by omega) (fun j hj hjl => ?_) (hg.trans hg2) (fun j hj hjl => ?_)
         · by_cases e : i = j
           · subst e;exact hiU
           · rw [getD_set_ne true e] at hjl;exact hopen j hj hjl
         · by_cases e : j = i
           · subst e;rw [show upd vs j v j = v from if_pos rfl];exact hr2
           · rw [show upd vs i v j = vs j from if_neg e]
             rw [getD_set_ne true (Ne.symm e)] at hjl
             exact hR j hj _ _ _ _ _ (hRs j hj hjl) hg2
     · obtain rfl : i = n:=by omega
       have hdone : ∀ j,j < i → listed.getD j true = true:=fun j hj => by
         cases hh : listed.getD j true with
         | true => rfl
         | false => exact absurd hi (tail_waits hs hc hn inv _ j rfl hj hh i (Nat.le_refl _))
       have ho' : oi = o:=by
         have:=get_drop hd
         rw [hoi] at this
         exact Option.some.inj this
       subst ho'
       have hr2 : Region.ready md l.toArray (listed.setIfInBounds i true) = []:=by
         refine List.eq_nil_iff_forall_not_mem.2 fun j hj => ?_
         obtain ⟨h1,oj,hoj,-⟩:=mem_ready.1 hj
         by_cases e : i = j
         · subst e
           have : (listed.setIfInBounds i true).getD i true = true:=by
             rcases Nat.lt_or_ge i listed.size with h | h
             · simp [h]
             · simp [h]
           rw [this] at h1;cases h1
         · rw [getD_set_ne true e] at h1
           have hjl : j < l.length:=by
             have:=(Array.getElem?_eq_some_iff.1 hoj).1
             simpa using this
           rw [hdone j (by omega)] at h1
           cases h1
       refine wpOp_step hoi (fun K' hK => last vs w t hg (HypsR.of U fun j hj => hRs j hj (hdone j (hUn j hj))) K' (fun a w hW => hK a w ⟨fun h => absurd h (Nat.lt_irrefl _),?_⟩))
       cases fuel with
       | zero => exact ⟨hr2,hW⟩
       | succ f => exact ⟨fun _ => hW,fun k hk => by rw [hr2] at hk;cases hk⟩
theorem WE_R (U : List Nat) (R : Nat → Value → World → (Nat → Nat) → Prop) {fr : (Nat → Value) → Act} {fuel : Nat} {listed : Array Bool} {a : Act} {w : World} {o : Oper} {post : List Oper} (hd : l.drop n = o :: post)
   (hU : (openB md l n U listed && decide ((unl l listed).length ≤ fuel)) = true)
   (hfr : ∀ vs,putU l U vs a = fr vs) (hR : ∀ j ∈ U,∀ v w t w' t',R j v w t → Grow w t w' t' → R j v w' t') (hS : ∀ w' t',Grow w (fun _ => 0) w' t' → S w')
   (ob : ObsR P md Q l U R fr w (fun _ => 0) U)
   (last : ∀ vs w' t',Grow w (fun _ => 0) w' t' → HypsR R vs w' t' U → ∀ K' : Act → World → Prop,Shut (∀ a w,Q .normal a w → K' a w) → if Region.wanted o (yielded l.toArray (fr vs).tmps) = true then Oper.wp P o (fr vs) w' K' Q else K' ((fr vs).put o.dst undef) w') :
   WE P md l.toArray n Q S fuel listed a w:=fun inv => by
 simp only [openB,Bool.and_eq_true,decide_eq_true_eq] at hU
 obtain ⟨⟨⟨⟨⟨⟨h1,h2⟩,h3⟩,h4⟩,h5⟩,h6⟩,h7⟩:=hU
 have hUn : ∀ j ∈ U,j < n:=fun j hj => by simpa using List.all_eq_true.1 h4 j hj
 have hop : ∀ j,j < n → (j ∈ U ↔ listed.getD j true = false):=fun j hj => by
   have:=List.all_eq_true.1 h3 j (List.mem_range.2 hj)
   simp only [beq_iff_eq] at this
   constructor
   · intro hh
     have hc : U.contains j = true:=by simpa using hh
     rw [hc] at this
     simpa using this.symm
   · intro hh
     rw [hh] at this
     simpa using this
 have hed : ∀ i o,l[i]? = some o → ∀ e ∈ o.after,Region.binds md e = true → e.on < i:=fun i o ho e he hb => by
   have hil : i < l.length:=(List.getElem?_eq_some_iff.1 ho).1
   have:=List.all_eq_true.1 h6 i (List.mem_range.2 hil)
   rw [ho] at this
   dsimp only at this
   have:=Array.all_eq_true_iff_forall_mem.1 this e he
   simp [hb] at this
   exact this
 obtain ⟨vs,hvs⟩:=putU_self (l:=l) U a h5
 have:=WE_R_go (S:=S) h1 h2 hUn h5 hed hfr hR hS ob hd last fuel listed vs w (fun _ => 0) inv h7 (fun j hj hh => (hop j hj).2 hh) (Grow.refl _ _) (fun j hj hh => by
   have h9:=(hop j (hUn j hj)).1 hj
   rw [h9] at hh;cases hh)
 rw [← hfr,hvs] at this
 exact this
end
end Go.Df
namespace Go.Df
open Go.RowKit
def ofNats (l : List Nat) : List Int:=l.map fun (x : Nat) => (x : Int)
theorem made_one (v : Value) (n : Nat) : madeCells #[v] n = (List.replicate n v).toArray:=by
 apply Array.ext_getElem?
 intro j
 rcases Nat.lt_or_ge j n with h | h
 · simp [madeCells,h,Nat.mod_one]
 · simp [madeCells,h]
theorem ofNats_len (l : List Nat) : (ofNats l).length = l.length:=by simp [ofNats]
theorem run_make1 {P : Program} {t e : TypeId} {i : TypeInfo} {z : Value} {bytes : Nat} (ht : P.underlying t = some (.slice e)) (hi : P.info? e = some i) (hz : i.zero = some z) (hsize : i.size = 1) (hby : i.bytes = bytes) (hzc : z.cells = #[z]) (n : Nat) (hbytes : bytes * n ≤ 281474976710656) (h63 : n ≤ 9223372036854775807) (M : Array Value) (hM : (List.replicate n z).toArray = M) (w : World) :
   (Instr.makeSlice t (.int .i64 (n : Int)) (.int .i64 (n : Int))).run P w = .ok (.slice (some ⟨w.heap.size,0,none⟩) n n) (w.alloc (.cells M e)):=by
 subst hby
 have hrun:=run_make (P:=P) w t e i z ht hi hz .i64 .i64 (n : Int) (n : Int) (by omega) (Int.le_refl _) (by rw [← Int.natCast_mul];omega) (by omega)
 simp only [Int.toNat_natCast,hsize,Nat.mul_one,hzc,made_one,hM] at hrun
 exact hrun
theorem act_named {F : Act → World → Prop} {a : Act} {w : World} (S : World → Prop) (h0 : S w) (h : ∀ W,S W → F a W) : F a w:=h w h0
theorem rep_at {n i : Nat} {v : Value} (h : i < n) : (List.replicate n v).toArray[i]? = some v:=by simp [h]
abbrev SXt (X : List Nat) (ga gb gc : Nat) (W w' : World) : Prop:=Kept X W w' ∧ (∀ o,w'.cell? ⟨ga,o,none⟩ = W.cell? ⟨ga,o,none⟩) ∧ (∀ o,w'.cell? ⟨gb,o,none⟩ = W.cell? ⟨gb,o,none⟩) ∧ (∀ o,w'.cell? ⟨gc,o,none⟩ = W.cell? ⟨gc,o,none⟩)
theorem SXt.of {X : List Nat} {ga gb gc : Nat} {W w' : World} (h : Kept X W w') (ha : ga < W.heap.size) (hb : gb < W.heap.size) (hc : gc < W.heap.size) (xa : ga ∉ X) (xb : gb ∉ X) (xc : gc ∉ X) : SXt X ga gb gc W w':=⟨h,fun o => h.cell ga o ha xa,fun o => h.cell gb o hb xb,fun o => h.cell gc o hc xc⟩
theorem filter_one {f : Nat → Bool} (k : Nat) : (List.range (k + 1)).filter f = if f k = true then (List.range k).filter f ++ [k] else (List.range k).filter f:=by
 rw [List.range_succ,List.filter_append]
 by_cases h : f k = true
 · simp [h]
 · simp [h]
theorem ofNats_snoc (l : List Nat) (k : Nat) : ofNats (l ++ [k]) = ofNats l ++ [(k : Int)]:=by simp [ofNats]
theorem own_kept2 {X : List Nat} {w w1 : World} {base : Nat} {e : TypeId} {k : Nat} {v : Value} {n : Nat} {xs : List Value} (h : w.ownsRow base e k v n xs) (hk : Kept X w w1) (hX : ∀ g,v.ownBlock = some g → g ∉ X) : w1.ownsRow base e k v n xs:=by
 refine ⟨h.1,?_⟩
 rcases h.2 with h2 | ⟨g,cap,cur,rfl,h3,h4,h5⟩
 · exact .inl h2
 · exact .inr ⟨g,cap,cur,rfl,h3,(hk.block g (Array.getElem?_eq_some_iff.1 h4).1 (hX g rfl)).trans h4,h5⟩
theorem own_lt2 {w : World} {base : Nat} {e : TypeId} {k : Nat} {v : Value} {n : Nat} {xs : List Value} (h : w.ownsRow base e k v n xs) {g : Nat} (hg : v.ownBlock = some g) : g < w.heap.size:=(own_tag h hg).lt
end Go.Df
namespace Go.Proofs.YtincpmdldpakkaaGreatDoor
open Go.RowKit Go.Df
theorem row_info : (Tryz.prog.info? 30).map (fun i => (i.zero,i.size,i.bytes)) = some (some (.slice none 0 0),1,24):=by kernel_rfl
end Go.Proofs.YtincpmdldpakkaaGreatDoor
namespace Go.Df
open Go.RowKit
structure Fx (O O' : Nat → Prop) (w w' : World) : Prop where
 os : w'.os = w.os
 tape : w'.tape = w.tape
 output : w'.output = w.output
 size : w.heap.size ≤ w'.heap.size
 blk : ∀ x,x < w.heap.size → ¬ O x → w'.heap[x]? = w.heap[x]?
 own : ∀ x,O' x → O x ∨ w.heap.size ≤ x
theorem Fx.refl (O : Nat → Prop) (w : World) : Fx O O w w:=⟨rfl,rfl,rfl,Nat.le_refl _,fun _ _ _ => rfl,fun _ h => .inl h⟩
theorem Fx.trans {O O' O'' : Nat → Prop} {w w' w'' : World} (h : Fx O O' w w') (k : Fx O' O'' w' w'') : Fx O O'' w w'' :=
 ⟨k.os.trans h.os,k.tape.trans h.tape,k.output.trans h.output,Nat.le_trans h.size k.size,fun x hx hn => (k.blk x (Nat.lt_of_lt_of_le hx h.size) (fun ho => by rcases h.own x ho with h1 | h1;exact hn h1;omega)).trans (h.blk x hx hn),
   fun x hx => by
     rcases k.own x hx with h1 | h1
     · exact h.own x h1
     · have:=h.size;exact .inr (by omega)⟩
theorem Fx.same {O : Nat → Prop} {w w' : World} (h : Kept [] w w') : Fx O O w w':=⟨h.os,h.tape,h.output,h.size,fun x hx _ => h.block x hx (by simp),fun _ h => .inl h⟩
theorem Fx.of {O O' : Nat → Prop} {X : List Nat} {w w' : World} (h : Kept X w w') (hX : ∀ x ∈ X,O x ∨ w.heap.size ≤ x) (hO : ∀ x,O' x → O x ∨ w.heap.size ≤ x) : Fx O O' w w' :=
 ⟨h.os,h.tape,h.output,h.size,fun x hx hn => h.block x hx (fun hm => by rcases hX x hm with h1 | h1;exact hn h1;omega),hO⟩
theorem Fx.below {O O' : Nat → Prop} {w0 w w' : World} (h : Fx O O' w w') (hb : Below w0.heap.size w0 w) (hO : ∀ x,O x → w0.heap.size ≤ x) : Below w0.heap.size w0 w' :=
 ⟨h.os.trans hb.os,h.tape.trans hb.tape,h.output.trans hb.output,Nat.le_trans hb.size h.size,fun k hk => (h.blk k (Nat.lt_of_lt_of_le hk hb.size) (fun ho => by have:=hO k ho;omega)).trans (hb.block k hk)⟩
def SafeB (O : Nat → Prop) (w : World) (x : Nat) : Prop:=x < w.heap.size ∧ ¬ O x
theorem SafeB.fx {O O' : Nat → Prop} {w w' : World} {x : Nat} (h : SafeB O w x) (f : Fx O O' w w') : SafeB O' w' x :=
 ⟨Nat.lt_of_lt_of_le h.1 f.size,fun ho => by rcases f.own x ho with h1 | h1;exact h.2 h1;have:=h.1;omega⟩
theorem SafeB.heap {O O' : Nat → Prop} {w w' : World} {x : Nat} (h : SafeB O w x) (f : Fx O O' w w') : w'.heap[x]? = w.heap[x]?:=f.blk x h.1 h.2
theorem SafeB.cell {O O' : Nat → Prop} {w w' : World} {x : Nat} (h : SafeB O w x) (f : Fx O O' w w') (i : Nat) : w'.cell? ⟨x,i,none⟩ = w.cell? ⟨x,i,none⟩:=World.cell?_of_block (w:=w) (h.heap f)
theorem SafeB.blk {O O' : Nat → Prop} {w w' : World} {x : Nat} {C : List Value} (h : SafeB O w x) (f : Fx O O' w w') (hb : Blk w x C) : Blk w' x C :=
 ⟨(h.fx f).1,fun i => (h.cell f i).trans (hb.2.1 i),fun i => (World.frozen?_of_block (w:=w) (h.heap f)).trans (hb.2.2 i)⟩
def SInO (O : Nat → Prop) (w : World) (A : Option Addr) (n c : Nat) (l : List Int) : Prop:=SIn w A n c l ∧ (0 < n → ∀ a,A = some a → SafeB O w a.block)
theorem SInO.fx {O O' : Nat → Prop} {w w' : World} {A : Option Addr} {n c : Nat} {l : List Int} (h : SInO O w A n c l) (f : Fx O O' w w') : SInO O' w' A n c l:=by
 refine ⟨⟨⟨h.1.1.1,fun hn => ?_⟩,h.1.2⟩,fun hn a ha => (h.2 hn a ha).fx f⟩
 obtain ⟨b,o,e,hl,hc⟩:=h.1.1.2 hn
 have hs:=h.2 hn _ e
 exact ⟨b,o,e,(hs.fx f).1,fun i hi => (hs.cell f (o + i)).trans (hc i hi)⟩
theorem SInO.new {O : Nat → Prop} {w w' : World} {A : Option Addr} {n c : Nat} {l : List Int} (h : SIn w' A n c l) (hf : Fr w w' A) (hO : ∀ x,O x → x < w.heap.size) : SInO O w' A n c l :=
 ⟨h,fun _ a ha => ⟨(hf a ha).2,fun ho => by have:=hO _ ho;have:=(hf a ha).1;omega⟩⟩
def RowsC (O : Nat → Prop) (w : World) (r N : Nat) (f : Nat → List Int) : Prop:=SafeB O w r ∧ ∀ i,i < N → ∃ A n c,w.cell? ⟨r,i,none⟩ = some (.slice A n c) ∧ SInO O w A n c (f i)
theorem RowsC.fx {O O' : Nat → Prop} {w w' : World} {r N : Nat} {f : Nat → List Int} (h : RowsC O w r N f) (g : Fx O O' w w') : RowsC O' w' r N f :=
 ⟨h.1.fx g,fun i hi => by
   obtain ⟨A,n,c,h1,h2⟩:=h.2 i hi
   exact ⟨A,n,c,(h.1.cell g i).trans h1,h2.fx g⟩⟩
def pcells (l : List (Nat × Nat)) : List Value:=l.flatMap fun x => [.int .i64 (x.1 : Int),.int .i64 (x.2 : Int)]
theorem pcells_snoc (l : List (Nat × Nat)) (x : Nat × Nat) : pcells (l ++ [x]) = pcells l ++ [.int .i64 (x.1 : Int),.int .i64 (x.2 : Int)]:=by simp [pcells]
theorem pcells_at : ∀ (l : List (Nat × Nat)) {i : Nat} (h : i < l.length),(pcells l)[i * 2]? = some (.int .i64 ((l[i]).1 : Int)) ∧ (pcells l)[i * 2 + 1]? = some (.int .i64 ((l[i]).2 : Int))
 | x :: l,0,_ => by simp [pcells]
 | x :: l,i + 1,h => by
   have h1:=pcells_at l (i:=i) (by simpa using h)
   have e : pcells (x :: l) = [.int .i64 (x.1 : Int),.int .i64 (x.2 : Int)] ++ pcells l:=rfl
   rw [e]
   refine ⟨?_,?_⟩
   · rw [List.getElem?_append_right (by simp;omega),show (i + 1) * 2 - [Value.int .i64 (x.1 : Int),.int .i64 (x.2 : Int)].length = i * 2 by simp;omega];exact h1.1
   · rw [List.getElem?_append_right (by simp;omega),show (i + 1) * 2 + 1 - [Value.int .i64 (x.1 : Int),.int .i64 (x.2 : Int)].length = i * 2 + 1 by simp;omega];exact h1.2
end Go.Df
