/- A pack of texts: Lf Jl Jn Kc. -/
import Derived.Test.YtmbihjlflcjlnaaGreatLe
import Derived.Test.YtmbihjlflcjlnaaGreatZl
import Derived.Test.YtmbihjlflcjlnaaGreatMc
import Derived.Maps.RangeWalk
import Derived.Laws.IdiomRangeMap
/- A region that draws its order and makes memory in several operations: each operation is told by what its value means (R), whatever the order. No program in sight. -/
namespace Go.Df
open Go
/-- Memory has grown; what was there is as it was, its marks too. -/
def Grow (w : World) (t : Nat → Nat) (w' : World) (t' : Nat → Nat) : Prop := Kept [] w w' ∧ ∀ g, g < w.heap.size → t' g = t g
theorem Grow.refl (w : World) (t : Nat → Nat) : Grow w t w t := ⟨Kept.refl _ _, fun _ _ => rfl⟩
theorem Grow.trans {w w' w'' : World} {t t' t'' : Nat → Nat} (h : Grow w t w' t') (h' : Grow w' t' w'' t'') : Grow w t w'' t'' :=
  ⟨keptTrans h.1 h'.1, fun g hg => (h'.2 g (Nat.lt_of_lt_of_le hg h.1.size)).trans (h.2 g hg)⟩
/-- A mark for a new block. -/
def mark (t : Nat → Nat) (g m : Nat) : Nat → Nat := fun x => if x = g then m else t x
theorem mark_same (t : Nat → Nat) (g m : Nat) : mark t g m g = m := if_pos rfl
theorem Grow.mark {w w' : World} {t : Nat → Nat} {g m : Nat} (h : Kept [] w w') (hg : w.heap.size ≤ g) : Grow w t w' (Go.Df.mark t g m) :=
  ⟨h, fun x hx => if_neg (by omega)⟩
theorem Grow.keep {w w' : World} {t : Nat → Nat} (h : Kept [] w w') : Grow w t w' t := ⟨h, fun _ _ => rfl⟩
/-- A block with its mark. -/
structure BlkT (w : World) (t : Nat → Nat) (g : Nat) (C : List Value) (m : Nat) : Prop where
  blk : Blk w g C
  tag : t g = m
theorem BlkT.grow {w w' : World} {t t' : Nat → Nat} {g m : Nat} {C : List Value} (h : BlkT w t g C m) (hg : Grow w t w' t') : BlkT w' t' g C m := ⟨hg.1.blk (by simp) h.blk, (hg.2 g h.blk.1).trans h.tag⟩
theorem BlkT.ne {w : World} {t : Nat → Nat} {g g' m m' : Nat} {C C' : List Value} (h : BlkT w t g C m) (h' : BlkT w t g' C' m') (hm : m ≠ m') : g ≠ g' := fun e => hm (by rw [← h.tag, ← h'.tag, e])
theorem BlkT.new (w : World) (t : Nat → Nat) (C : List Value) (ty : TypeId) (m : Nat) : BlkT (w.alloc (.cells C.toArray ty)) (Go.Df.mark t w.heap.size m) w.heap.size C m := ⟨Blk.new _ _ _ _ rfl, mark_same _ _ _⟩
section
variable {P : Program} {Q : Exit → Act → World → Prop} {md : Region.Mode} {S : World → Prop} {n : Nat} {l : List Oper}
/-- The slot of an operation. -/
def dstOf (l : List Oper) (j : Nat) : Option Tmp := (l[j]?).bind (·.dst)
/-- The values of the operations U, in the frame. -/
def putU (l : List Oper) : List Nat → (Nat → Value) → Act → Act
  | [], _, a => a
  | j :: U, vs, a => putU l U vs (a.put (dstOf l j) (vs j))
theorem putU_congr : ∀ (U : List Nat) {vs us : Nat → Value} {a : Act}, (∀ j ∈ U, vs j = us j) → putU l U vs a = putU l U us a
  | [], _, _, _, _ => rfl
  | j :: U, vs, us, a, h => by
    rw [putU, putU, h j (by simp)]
    exact putU_congr U (fun i hi => h i (by simp [hi]))
theorem put_put (a : Act) (x : Option Tmp) (u v : Value) : (a.put x u).put x v = a.put x v := by
  cases x with
  | none => rfl
  | some d => simp [Act.put]
theorem putU_comm {x : Option Tmp} {v : Value} : ∀ (U : List Nat) {vs : Nat → Value} {a : Act}, (∀ j ∈ U, dstOf l j ≠ x) → (putU l U vs a).put x v = putU l U vs (a.put x v)
  | [], _, _, _ => rfl
  | j :: U, vs, a, h => by
    rw [putU, putU, putU_comm U (fun i hi => h i (by simp [hi])), Act.put_comm a (vs j) v (fun d hd => by rw [← hd]; exact (h j (by simp)).symm)]
def upd (vs : Nat → Value) (i : Nat) (v : Value) : Nat → Value := fun j => if j = i then v else vs j
theorem putU_upd {i : Nat} {v : Value} : ∀ (U : List Nat) {vs : Nat → Value} {a : Act}, i ∈ U → U.Pairwise (fun x y => dstOf l x ≠ dstOf l y ∧ x ≠ y) → (putU l U vs a).put (dstOf l i) v = putU l U (upd vs i v) a
  | j :: U, vs, a, hi, hp => by
    obtain ⟨h1, h2⟩ := List.pairwise_cons.1 hp
    by_cases e : j = i
    · subst e
      rw [putU, putU, putU_comm U (fun y hy => (h1 y hy).1.symm), put_put]
      rw [show upd vs j v j = v from if_pos rfl]
      exact putU_congr U (fun y hy => (if_neg (h1 y hy).2.symm).symm)
    · have hi' : i ∈ U := by simpa [Ne.symm e] using hi
      rw [putU, putU, putU_upd U hi' h2, show upd vs i v j = vs j from if_neg e]
theorem put_self (a : Act) (x : Option Tmp) : ∃ v, a.put x v = a := by
  cases x with
  | none => exact ⟨undef, rfl⟩
  | some d =>
    refine ⟨a.tmps.getD d undef, ?_⟩
    unfold Act.put
    dsimp only
    rcases Nat.lt_or_ge d a.tmps.size with h | h
    · have : a.tmps.setIfInBounds d (a.tmps.getD d undef) = a.tmps := by
        rw [Array.setIfInBounds_def, dif_pos h]
        simp [h]
      rw [this]
    · rw [Array.setIfInBounds_eq_of_size_le h]
theorem putU_self : ∀ (U : List Nat) (a : Act), U.Pairwise (fun x y => dstOf l x ≠ dstOf l y ∧ x ≠ y) → ∃ vs, putU l U vs a = a
  | [], _, _ => ⟨fun _ => undef, rfl⟩
  | j :: U, a, hp => by
    obtain ⟨h1, h2⟩ := List.pairwise_cons.1 hp
    obtain ⟨vs, hv⟩ := putU_self U a h2
    obtain ⟨v, hw⟩ := put_self a (dstOf l j)
    refine ⟨upd vs j v, ?_⟩
    rw [putU, show upd vs j v j = v from if_pos rfl, hw]
    exact (putU_congr (vs := upd vs j v) (us := vs) U (fun y hy => if_neg (h1 y hy).2.symm)).trans hv
/-- What is known of the values of the operations D. -/
def HypsR (R : Nat → Value → World → (Nat → Nat) → Prop) (vs : Nat → Value) (w : World) (t : Nat → Nat) : List Nat → Prop
  | [] => True
  | j :: D => R j (vs j) w t ∧ HypsR R vs w t D
theorem HypsR.of {R : Nat → Value → World → (Nat → Nat) → Prop} {vs : Nat → Value} {w : World} {t : Nat → Nat} : ∀ (D : List Nat), (∀ j ∈ D, R j (vs j) w t) → HypsR R vs w t D
  | [], _ => trivial
  | j :: D, h => ⟨h j (by simp), HypsR.of D (fun i hi => h i (by simp [hi]))⟩
/-- What operation j owes. -/
def ObR (P : Program) (md : Region.Mode) (Q : Exit → Act → World → Prop) (l : List Oper) (U : List Nat) (R : Nat → Value → World → (Nat → Nat) → Prop) (fr : (Nat → Value) → Act) (w0 : World) (t0 : Nat → Nat) (j : Nat) : Prop :=
  ∃ o post, l.drop j = o :: post ∧ ∃ D : List Nat, (D.all fun i => Region.waitsFor md l.toArray j i && U.contains i) = true ∧ ∀ vs w t, Grow w0 t0 w t → HypsR R vs w t D → ∀ K' : Act → World → Prop, Shut (∀ v a2 w2 t2, a2 = (fr vs).put o.dst v → Grow w t w2 t2 → R j v w2 t2 → K' a2 w2) →
    if Region.wanted o (yielded l.toArray (fr vs).tmps) = true then Oper.wp P o (fr vs) w K' Q else K' ((fr vs).put o.dst undef) w
def ObsR (P : Program) (md : Region.Mode) (Q : Exit → Act → World → Prop) (l : List Oper) (U0 : List Nat) (R : Nat → Value → World → (Nat → Nat) → Prop) (fr : (Nat → Value) → Act) (w0 : World) (t0 : Nat → Nat) : List Nat → Prop
  | [] => True
  | j :: U => ObR P md Q l U0 R fr w0 t0 j ∧ ObsR P md Q l U0 R fr w0 t0 U
theorem ObsR.get {U0 : List Nat} {R : Nat → Value → World → (Nat → Nat) → Prop} {fr : (Nat → Value) → Act} {w0 : World} {t0 : Nat → Nat} : ∀ {U : List Nat}, ObsR P md Q l U0 R fr w0 t0 U → ∀ {j : Nat}, j ∈ U → ObR P md Q l U0 R fr w0 t0 j
  | i :: U, h, j, hj => by
    rcases List.mem_cons.1 hj with rfl | hj
    · exact h.1
    · exact ObsR.get h.2 hj
/-- U are the operations that are open; n, the last, waits for all; edges lead back. -/
def openB (md : Region.Mode) (l : List Oper) (n : Nat) (U : List Nat) (listed : Array Bool) : Bool :=
  lastB md l.toArray n && decide (l.length = n + 1) && ((List.range n).all fun j => U.contains j == !listed.getD j true) && (U.all fun j => decide (j < n)) && decide (U.Pairwise (fun x y => dstOf l x ≠ dstOf l y ∧ x ≠ y)) &&
    ((List.range l.length).all fun i => match l[i]? with | some o => o.after.all (fun e => !Region.binds md e || decide (e.on < i)) | none => true)
def unl (l : List Oper) (listed : Array Bool) : List Nat := (List.range l.length).filter fun j => !listed.getD j true
theorem unl_set {listed : Array Bool} {i : Nat} (hi : listed.getD i true = false) (hl : i < l.length) : (unl l (listed.setIfInBounds i true)).length + 1 ≤ (unl l listed).length := by
  unfold unl
  have h1 : ∀ j ∈ List.range l.length, (!(listed.setIfInBounds i true).getD j true) = (!listed.getD j true && (j != i)) := fun j hj => by
    by_cases e : i = j
    · subst e
      have : (listed.setIfInBounds i true).getD i true = true := by
        rcases Nat.lt_or_ge i listed.size with h | h
        · simp [h]
        · simp [h]
      rw [this]; simp
    · rw [getD_set_ne true e]
      have : (j != i) = true := by simpa using Ne.symm e
      rw [this, Bool.and_true]
  rw [List.filter_congr h1]
  rw [show (fun j => !listed.getD j true && (j != i)) = fun j => (fun j => !listed.getD j true) j && (j != i) from rfl]
  rw [← List.filter_filter]
  have hm : i ∈ (List.range l.length).filter (fun j => !listed.getD j true) := by
    rw [List.mem_filter]
    exact ⟨List.mem_range.2 hl, by rw [hi]; rfl⟩
  generalize hL : (List.range l.length).filter (fun j => !listed.getD j true) = L at hm
  have hlt : (L.filter (fun j => j != i)).length < L.length := by
    rcases Nat.lt_or_ge (L.filter (fun j => j != i)).length L.length with h | h
    · exact h
    · have h2 := List.length_filter_le (fun j => j != i) L
      have h3 : ∀ x ∈ L, (x != i) = true := List.length_filter_eq_length_iff.1 (by omega)
      have := h3 i hm
      simp at this
  have hcomm : (List.range l.length).filter (fun j => j != i) = (List.range l.length).filter (fun j => j != i) := rfl
  have : ((List.range l.length).filter (fun j => j != i)).filter (fun j => !listed.getD j true) = L.filter (fun j => j != i) := by
    rw [← hL, List.filter_filter, List.filter_filter]
    exact List.filter_congr (fun x _ => Bool.and_comm _ _)
  first
    | (rw [this]; omega)
    | omega
theorem WE_R_go {U : List Nat} {R : Nat → Value → World → (Nat → Nat) → Prop} {fr : (Nat → Value) → Act} {a0 : Act} {w0 : World} {t0 : Nat → Nat}
    (hl : lastB md l.toArray n = true) (hlen : l.length = n + 1) (hUn : ∀ j ∈ U, j < n) (hpw : U.Pairwise (fun x y => dstOf l x ≠ dstOf l y ∧ x ≠ y))
    (hed : ∀ i o, l[i]? = some o → ∀ e ∈ o.after, Region.binds md e = true → e.on < i)
    (hfr : ∀ vs, putU l U vs a0 = fr vs) (hR : ∀ j ∈ U, ∀ v w t w' t', R j v w t → Grow w t w' t' → R j v w' t') (hS : ∀ w t, Grow w0 t0 w t → S w)
    (ob : ObsR P md Q l U R fr w0 t0 U)
    {o : Oper} {post : List Oper} (hd : l.drop n = o :: post)
    (last : ∀ vs w t, Grow w0 t0 w t → HypsR R vs w t U → ∀ K' : Act → World → Prop, Shut (∀ a w, Q .normal a w → K' a w) → if Region.wanted o (yielded l.toArray (fr vs).tmps) = true then Oper.wp P o (fr vs) w K' Q else K' ((fr vs).put o.dst undef) w) :
    ∀ (fuel : Nat) (listed : Array Bool) (vs : Nat → Value) (w : World) (t : Nat → Nat), HeadInv md l.toArray n listed → (unl l listed).length ≤ fuel → (∀ j, j < n → listed.getD j true = false → j ∈ U) → Grow w0 t0 w t → (∀ j ∈ U, listed.getD j true = true → R j (vs j) w t) →
      wpAnyE P md l.toArray n Q S fuel listed (fr vs) w := by
  have hl' := hl
  simp only [lastB, Bool.and_eq_true, decide_eq_true_eq] at hl
  obtain ⟨⟨hs, hc⟩, hn⟩ := hl
  intro fuel
  induction fuel with
  | zero =>
    intro listed vs w t inv hf _ _ _
    have h1 := inv.tail n (Nat.le_refl _) hn
    have h2 : n ∈ unl l listed := by
      unfold unl
      rw [List.mem_filter]
      exact ⟨List.mem_range.2 (by omega), by rw [h1]; rfl⟩
    have := List.length_pos_of_mem h2
    omega
  | succ fuel ih =>
    intro listed vs w t inv hf hopen hg hRs
    have hsz : listed.size = l.length := by rw [inv.size]; simp
    refine ⟨fun h0 => ?_, fun i hi => ?_⟩
    · -- the least one that is open can come up
      exfalso
      have hex : ∃ j, listed.getD j true = false := ⟨n, inv.tail n (Nat.le_refl _) hn⟩
      have hmin : ∀ k j, j ≤ k → listed.getD j true = false → ∃ i, listed.getD i true = false ∧ ∀ i', i' < i → listed.getD i' true ≠ false := by
        intro k
        induction k with
        | zero => intro j hj hh; exact ⟨j, hh, fun i' hi' => by omega⟩
        | succ k ihk =>
          intro j hj hh
          by_cases hx : ∃ i', i' < j ∧ listed.getD i' true = false
          · obtain ⟨i', h1, h2⟩ := hx
            exact ihk i' (by omega) h2
          · exact ⟨j, hh, fun i' hi' h2 => hx ⟨i', hi', h2⟩⟩
      obtain ⟨j, hj⟩ := hex
      obtain ⟨i, hi, hlow⟩ := hmin j j (Nat.le_refl _) hj
      have hil : i < l.length := by
        rcases Nat.lt_or_ge i l.length with h | h
        · exact h
        · have : listed.getD i true = true := by simp [hsz, h]
          rw [hi] at this; cases this
      have hm : i ∈ Region.ready md l.toArray listed := by
        refine mem_ready.2 ⟨hi, l[i], by simp [hil], fun e he hb => ?_⟩
        have h1 := hed i l[i] (by simp [hil]) e he hb
        have h2 := hlow e.on h1
        have h3 : listed.getD e.on true = true := by
          cases hh : listed.getD e.on true with
          | true => rfl
          | false => exact absurd hh h2
        have h4 : e.on < listed.size := by omega
        simp [h4] at h3 ⊢
        exact h3
      rw [h0] at hm
      cases hm
    · obtain ⟨hiun, oi, hoi, hall⟩ := mem_ready.1 hi
      have hil : i < l.length := by
        have := (Array.getElem?_eq_some_iff.1 hoi).1
        simpa using this
      rcases Nat.lt_or_ge i n with hin | hin
      · have hiU := hopen i hin hiun
        obtain ⟨o', post', hd', D, hD, hob⟩ := ob.get hiU
        have ho' : oi = o' := by
          have := get_drop hd'
          rw [hoi] at this
          exact Option.some.inj this
        subst ho'
        refine wpOp_step hoi (fun K' hK => hob vs w t hg (HypsR.of D fun j hj => ?_) K' (fun v a2 w2 t2 ha hg2 hr2 => hK a2 w2 ⟨fun _ => hS w2 t2 (hg.trans hg2), ?_⟩))
        · have h1 := List.all_eq_true.1 hD j hj
          simp only [Bool.and_eq_true] at h1
          obtain ⟨oj, hoj, e, he, hb, hon⟩ := Region.waitsFor_spec h1.1
          have : oj = oi := Option.some.inj (hoj.symm.trans hoi)
          subst this
          have h2 := hall e he hb
          rw [hon] at h2
          refine hRs j (by simpa using h1.2) ?_
          cases hh : listed.getD j true with
          | true => rfl
          | false => rw [getD_both hh] at h2; cases h2
        · have hdst : dstOf l i = oi.dst := by
            unfold dstOf
            have : l[i]? = some oi := by simpa using hoi
            rw [this]; rfl
          rw [ha, ← hdst, ← hfr, putU_upd U hiU hpw, hfr]
          have hun := unl_set (l := l) hiun hil
          refine ih (listed.setIfInBounds i true) (upd vs i v) w2 t2 (inv.set hi hin) (by omega) (fun j hj hjl => ?_) (hg.trans hg2) (fun j hj hjl => ?_)
          · by_cases e : i = j
            · subst e; exact hiU
            · rw [getD_set_ne true e] at hjl; exact hopen j hj hjl
          · by_cases e : j = i
            · subst e; rw [show upd vs j v j = v from if_pos rfl]; exact hr2
            · rw [show upd vs i v j = vs j from if_neg e]
              rw [getD_set_ne true (Ne.symm e)] at hjl
              exact hR j hj _ _ _ _ _ (hRs j hj hjl) hg2
      · obtain rfl : i = n := by omega
        have hdone : ∀ j, j < i → listed.getD j true = true := fun j hj => by
          cases hh : listed.getD j true with
          | true => rfl
          | false => exact absurd hi (tail_waits hs hc hn inv _ j rfl hj hh i (Nat.le_refl _))
        have ho' : oi = o := by
          have := get_drop hd
          rw [hoi] at this
          exact Option.some.inj this
        subst ho'
        have hr2 : Region.ready md l.toArray (listed.setIfInBounds i true) = [] := by
          refine List.eq_nil_iff_forall_not_mem.2 fun j hj => ?_
          obtain ⟨h1, oj, hoj, -⟩ := mem_ready.1 hj
          by_cases e : i = j
          · subst e
            have : (listed.setIfInBounds i true).getD i true = true := by
              rcases Nat.lt_or_ge i listed.size with h | h
              · simp [h]
              · simp [h]
            rw [this] at h1; cases h1
          · rw [getD_set_ne true e] at h1
            have hjl : j < l.length := by
              have := (Array.getElem?_eq_some_iff.1 hoj).1
              simpa using this
            rw [hdone j (by omega)] at h1
            cases h1
        refine wpOp_step hoi (fun K' hK => last vs w t hg (HypsR.of U fun j hj => hRs j hj (hdone j (hUn j hj))) K' (fun a w hW => hK a w ⟨fun h => absurd h (Nat.lt_irrefl _), ?_⟩))
        cases fuel with
        | zero => exact ⟨hr2, hW⟩
        | succ f => exact ⟨fun _ => hW, fun k hk => by rw [hr2] at hk; cases hk⟩
/-- The operations U, in any order. -/
theorem WE_R (U : List Nat) (R : Nat → Value → World → (Nat → Nat) → Prop) {fr : (Nat → Value) → Act} {fuel : Nat} {listed : Array Bool} {a : Act} {w : World} {o : Oper} {post : List Oper} (hd : l.drop n = o :: post)
    (hU : (openB md l n U listed && decide ((unl l listed).length ≤ fuel)) = true)
    (hfr : ∀ vs, putU l U vs a = fr vs) (hR : ∀ j ∈ U, ∀ v w t w' t', R j v w t → Grow w t w' t' → R j v w' t') (hS : ∀ w' t', Grow w (fun _ => 0) w' t' → S w')
    (ob : ObsR P md Q l U R fr w (fun _ => 0) U)
    (last : ∀ vs w' t', Grow w (fun _ => 0) w' t' → HypsR R vs w' t' U → ∀ K' : Act → World → Prop, Shut (∀ a w, Q .normal a w → K' a w) → if Region.wanted o (yielded l.toArray (fr vs).tmps) = true then Oper.wp P o (fr vs) w' K' Q else K' ((fr vs).put o.dst undef) w') :
    WE P md l.toArray n Q S fuel listed a w := fun inv => by
  simp only [openB, Bool.and_eq_true, decide_eq_true_eq] at hU
  obtain ⟨⟨⟨⟨⟨⟨h1, h2⟩, h3⟩, h4⟩, h5⟩, h6⟩, h7⟩ := hU
  have hUn : ∀ j ∈ U, j < n := fun j hj => by simpa using List.all_eq_true.1 h4 j hj
  have hop : ∀ j, j < n → (j ∈ U ↔ listed.getD j true = false) := fun j hj => by
    have := List.all_eq_true.1 h3 j (List.mem_range.2 hj)
    simp only [beq_iff_eq] at this
    constructor
    · intro hh
      have hc : U.contains j = true := by simpa using hh
      rw [hc] at this
      simpa using this.symm
    · intro hh
      rw [hh] at this
      simpa using this
  have hed : ∀ i o, l[i]? = some o → ∀ e ∈ o.after, Region.binds md e = true → e.on < i := fun i o ho e he hb => by
    have hil : i < l.length := (List.getElem?_eq_some_iff.1 ho).1
    have := List.all_eq_true.1 h6 i (List.mem_range.2 hil)
    rw [ho] at this
    dsimp only at this
    have := Array.all_eq_true_iff_forall_mem.1 this e he
    simp [hb] at this
    exact this
  obtain ⟨vs, hvs⟩ := putU_self (l := l) U a h5
  have := WE_R_go (S := S) h1 h2 hUn h5 hed hfr hR hS ob hd last fuel listed vs w (fun _ => 0) inv h7 (fun j hj hh => (hop j hj).2 hh) (Grow.refl _ _) (fun j hj hh => by
    have h9 := (hop j (hUn j hj)).1 hj
    rw [h9] at hh; cases hh)
  rw [← hfr, hvs] at this
  exact this
end
end Go.Df
/- New tables; the parts of a new solver. -/
namespace Go.Df
open Go.RowKit
/-- A block with its object and its mark. -/
structure ObjT (w : World) (t : Nat → Nat) (g : Nat) (o : Obj) (m : Nat) : Prop where
  heap : w.heap[g]? = some o
  tag : t g = m
theorem ObjT.lt {w : World} {t : Nat → Nat} {g m : Nat} {o : Obj} (h : ObjT w t g o m) : g < w.heap.size := (Array.getElem?_eq_some_iff.1 h.heap).1
theorem ObjT.grow {w w' : World} {t t' : Nat → Nat} {g m : Nat} {o : Obj} (h : ObjT w t g o m) (hg : Grow w t w' t') : ObjT w' t' g o m := ⟨(hg.1.block g h.lt (by simp)).trans h.heap, (hg.2 g h.lt).trans h.tag⟩
theorem ObjT.ne {w : World} {t : Nat → Nat} {g g' m m' : Nat} {o o' : Obj} (h : ObjT w t g o m) (h' : ObjT w t g' o' m') (hm : m ≠ m') : g ≠ g' := fun e => hm (by rw [← h.tag, ← h'.tag, e])
theorem ObjT.new (w : World) (t : Nat → Nat) (o : Obj) (m : Nat) : ObjT (w.alloc o) (Go.Df.mark t w.heap.size m) w.heap.size o m := ⟨heap_alloc_new w o, mark_same _ _ _⟩
theorem ObjT.at {w : World} {t : Nat → Nat} {g m : Nat} {o : Obj} (h : w.heap[g]? = some o) : ObjT w (Go.Df.mark t g m) g o m := ⟨h, mark_same _ _ _⟩
/-- The parts of a new solver: numbers, four rows of slices, two tables, a row of pairs. -/
structure Pcs (base : Nat) (oI oR oM oE oP : Obj) (w : World) (t : Nat → Nat) (g2 g4 g6 g8 g10 g12 g17 g19 : Nat) : Prop where
  h2 : ObjT w t g2 oI 1 ∧ base ≤ g2
  h4 : ObjT w t g4 oR 2 ∧ base ≤ g4
  h6 : ObjT w t g6 oR 3 ∧ base ≤ g6
  h8 : ObjT w t g8 oR 4 ∧ base ≤ g8
  h10 : ObjT w t g10 oR 5 ∧ base ≤ g10
  h12 : ObjT w t g12 oM 6 ∧ base ≤ g12
  h17 : ObjT w t g17 oE 7 ∧ base ≤ g17
  h19 : ObjT w t g19 oP 8 ∧ base ≤ g19
theorem Pcs.grow {base : Nat} {oI oR oM oE oP : Obj} {w w' : World} {t t' : Nat → Nat} {g2 g4 g6 g8 g10 g12 g17 g19 : Nat} (h : Pcs base oI oR oM oE oP w t g2 g4 g6 g8 g10 g12 g17 g19) (hg : Grow w t w' t') : Pcs base oI oR oM oE oP w' t' g2 g4 g6 g8 g10 g12 g17 g19 :=
  ⟨⟨h.h2.1.grow hg, h.h2.2⟩, ⟨h.h4.1.grow hg, h.h4.2⟩, ⟨h.h6.1.grow hg, h.h6.2⟩, ⟨h.h8.1.grow hg, h.h8.2⟩, ⟨h.h10.1.grow hg, h.h10.2⟩, ⟨h.h12.1.grow hg, h.h12.2⟩, ⟨h.h17.1.grow hg, h.h17.2⟩, ⟨h.h19.1.grow hg, h.h19.2⟩⟩
/-- make, as an equation on its run. -/
theorem run_make1 {P : Program} {t e : TypeId} {i : TypeInfo} {z : Value} {bytes : Nat} (ht : P.underlying t = some (.slice e)) (hi : P.info? e = some i) (hz : i.zero = some z) (hsize : i.size = 1) (hby : i.bytes = bytes) (hzc : z.cells = #[z]) (n : Nat) (hbytes : bytes * n ≤ 281474976710656) (h63 : n ≤ 9223372036854775807) (M : Array Value) (hM : (List.replicate n z).toArray = M) (w : World) :
    (Instr.makeSlice t (.int .i64 (n : Int)) (.int .i64 (n : Int))).run P w = .ok (.slice (some ⟨w.heap.size, 0, none⟩) n n) (w.alloc (.cells M e)) := by
  subst hby
  have hrun := run_make (P := P) w t e i z ht hi hz .i64 .i64 (n : Int) (n : Int) (by omega) (Int.le_refl _) (by rw [← Int.natCast_mul]; omega) (by omega)
  simp only [Int.toNat_natCast, hsize, Nat.mul_one, hzc, made_one, hM] at hrun
  exact hrun
end Go.Df
namespace Go.Proofs.YtmbihjlflcjlnaaGreat
open Go.RowKit Go.Df Go.Df.If
attribute [local go_sem ↓] Go.wp_at_zero Go.wp_at_succ
theorem map_info : (Tryz.prog.info? 121).map (fun i => (i.zero, i.size, i.bytes)) = some (some (.map none), 1, 8) := by kernel_rfl
theorem row_info : (Tryz.prog.info? 66).map (fun i => (i.zero, i.size, i.bytes)) = some (some (.slice none 0 0), 1, 24) := by kernel_rfl
theorem prow_info : (Tryz.prog.info? 40).map (fun i => (i.zero, i.size, i.bytes)) = some (some (.slice none 0 0), 1, 24) := by kernel_rfl

set_option maxRecDepth 100000 in
set_option maxHeartbeats 4000000 in
theorem newTable_any (n : Nat) (w : World) (hn : n ≤ 1000000) (M : Array Value) (hM : (List.replicate n (Value.map none)).toArray = M) :
    Calls Tryz.prog 55 #[.int .i64 n] w fun e w' => ∃ g, e = .returned (.agg #[.slice (some ⟨g, 0, none⟩) n n]) ∧ w'.heap[g]? = some (.cells M 121 (0, 0)) ∧ w.heap.size ≤ g ∧ Below w.heap.size w w' := by
  obtain ⟨i0, hi, hz0, hz1, hz2⟩ := info_parts map_info
  have hmk := fun w => run_make1 (P := Tryz.prog) Tryz.underlying99 hi hz0 hz1 hz2 rfl n (by omega) (by omega) M hM w
  have HM := Lib.hid hM
  clear hM
  go_enter Tryz.func55, Tryz.ntmps55
  go_wp2
  go_returns
  refine ⟨w.heap.size + 1, rfl, ?_, by omega, (((Kept.refl [] w).alloc _).alloc _).toBelow⟩
  have h1 := heap_alloc_new (w.alloc (.cells #[.slice (some ⟨w.heap.size + 1, 0, none⟩) n n] 101)) (.cells M 121)
  simpa using h1
end Go.Proofs.YtmbihjlflcjlnaaGreat
/- Rows of slices of a call's own, written one after the other. -/
namespace Go.Df
open Go.RowKit
theorem least_exists (P : Nat → Prop) (h : ∃ m, P m) : ∃ m, P m ∧ ∀ m', P m' → m ≤ m' := by
  have hk : ∀ k m, m ≤ k → P m → ∃ m, P m ∧ ∀ m', P m' → m ≤ m' := by
    intro k
    induction k with
    | zero => intro m hm hp; obtain rfl : m = 0 := by omega
              exact ⟨0, hp, fun _ _ => Nat.zero_le _⟩
    | succ k ih =>
      intro m hm hp
      by_cases hx : ∃ m', P m' ∧ m' < m
      · obtain ⟨m', h1, h2⟩ := hx
        exact ih m' (by omega) h1
      · exact ⟨m, hp, fun m' h1 => Nat.le_of_not_lt fun h2 => hx ⟨m', h1, h2⟩⟩
  obtain ⟨m, hm⟩ := h
  exact hk m m (Nat.le_refl _) hm
open Classical in
/-- The least number of which P holds in a world. -/
noncomputable def leastM (P : Nat → World → Prop) (w : World) : Nat := if h : ∃ m, P m w then Classical.choose (least_exists (fun m => P m w) h) else 0
theorem leastM_spec {P : Nat → World → Prop} {w : World} (h : ∃ m, P m w) : P (leastM P w) w := by
  unfold leastM
  rw [dif_pos h]
  exact (Classical.choose_spec (least_exists (fun m => P m w) h)).1
theorem leastM_le {P : Nat → World → Prop} {w : World} {m : Nat} (h : P m w) : leastM P w ≤ m := by
  unfold leastM
  rw [dif_pos ⟨m, h⟩]
  exact (Classical.choose_spec (least_exists (fun m => P m w) ⟨m, h⟩)).2 m h
/-- The world is named, whatever follows. -/
theorem act_named {F : Act → World → Prop} {a : Act} {w : World} (S : World → Prop) (h0 : S w) (h : ∀ W, S W → F a W) : F a w := h w h0
theorem blk_of_obj {w : World} {g : Nat} {C : List Value} {t : TypeId} (h : w.heap[g]? = some (.cells C.toArray t (0, 0))) : Blk w g C :=
  ⟨(Array.getElem?_eq_some_iff.1 h).1, fun i => by simp [World.cell?, h], fun i => by simp [World.frozen?, h]⟩
/-- Numbers that may be written. -/
def IntA (w : World) (g n : Nat) (f : Nat → Nat) : Prop := g < w.heap.size ∧ (∀ x, x < n → w.cell? ⟨g, x, none⟩ = some (.int .i64 (f x : Nat))) ∧ ∀ x, w.frozen? ⟨g, x, none⟩ = false
theorem IntA.kept {X : List Nat} {w w' : World} {g n : Nat} {f : Nat → Nat} (h : IntA w g n f) (hk : Kept X w w') (hX : g ∉ X) : IntA w' g n f :=
  ⟨Nat.lt_of_lt_of_le h.1 hk.size, fun x hx => (hk.cell g x h.1 hX).trans (h.2.1 x hx), fun x => (hk.frozen g x h.1 hX).trans (h.2.2 x)⟩
theorem IntA.set {w : World} {g n : Nat} {f : Nat → Nat} (h : IntA w g n f) (i y : Nat) {f' : Nat → Nat} (hf : ∀ x, x < n → f' x = if x = i then y else f x) : IntA (w.setCell ⟨g, i, none⟩ (.int .i64 (y : Nat))) g n f' := by
  refine ⟨by simpa [World.setCell] using h.1, fun x hx => ?_, fun x => by simpa using h.2.2 x⟩
  rw [hf x hx]
  by_cases e : x = i
  · subst e; rw [if_pos rfl]; exact set_same (h.2.1 x hx)
  · rw [if_neg e, set_other (.inr (fun h => e h.symm))]; exact h.2.1 x hx
theorem rep_at {n i : Nat} {v : Value} (h : i < n) : (List.replicate n v).toArray[i]? = some v := by simp [h]
open Classical in
noncomputable def upd2 {α : Type} (f : Nat → Nat → α) (t i : Nat) (x : α) : Nat → Nat → α := fun t' i' => if t' = t ∧ i' = i then x else f t' i'
theorem upd2_at {α : Type} (f : Nat → Nat → α) (t i : Nat) (x : α) : upd2 f t i x t i = x := by simp [upd2]
theorem upd2_ne {α : Type} {f : Nat → Nat → α} {t i t' i' : Nat} {x : α} (h : ¬ (t' = t ∧ i' = i)) : upd2 f t i x t' i' = f t' i' := by simp [upd2, h]
def rsel (a b c d : Nat) (t : Nat) : Nat := match t with
  | 0 => a
  | 1 => b
  | 2 => c
  | _ => d
abbrev SXt (X : List Nat) (ga gb gc : Nat) (W w' : World) : Prop := Kept X W w' ∧ (∀ o, w'.cell? ⟨ga, o, none⟩ = W.cell? ⟨ga, o, none⟩) ∧ (∀ o, w'.cell? ⟨gb, o, none⟩ = W.cell? ⟨gb, o, none⟩) ∧ (∀ o, w'.cell? ⟨gc, o, none⟩ = W.cell? ⟨gc, o, none⟩)
theorem SXt.of {X : List Nat} {ga gb gc : Nat} {W w' : World} (h : Kept X W w') (ha : ga < W.heap.size) (hb : gb < W.heap.size) (hc : gc < W.heap.size) (xa : ga ∉ X) (xb : gb ∉ X) (xc : gc ∉ X) : SXt X ga gb gc W w' := ⟨h, fun o => h.cell ga o ha xa, fun o => h.cell gb o hb xb, fun o => h.cell gc o hc xc⟩
/-- Four rows of N slices of numbers; each slice has a block of its own, not below lim. -/
structure Rws (e : TypeId) (lim : Nat) (w : World) (r : Nat → Nat) (N : Nat) (v : Nat → Nat → Value) (l : Nat → Nat → List Int) : Prop where
  cell : ∀ t i, t < 4 → i < N → w.cell? ⟨r t, i, none⟩ = some (v t i)
  fr : ∀ t i, t < 4 → w.frozen? ⟨r t, i, none⟩ = false
  rlt : ∀ t, t < 4 → r t < lim
  hlim : lim ≤ w.heap.size
  rr : ∀ t t', t < 4 → t' < 4 → r t = r t' → t = t'
  own : ∀ t i, t < 4 → i < N → w.ownsRow lim e 1 (v t i) (l t i).length ((l t i).map (Value.int .i64))
  vv : ∀ t i t' i' x, t < 4 → t' < 4 → i < N → i' < N → (v t i).ownBlock = some x → (v t' i').ownBlock = some x → t = t' ∧ i = i'
variable {e : TypeId} {lim : Nat} {w w1 : World} {r : Nat → Nat} {N : Nat} {v : Nat → Nat → Value} {l : Nat → Nat → List Int}
theorem Rws.kept {X : List Nat} (h : Rws e lim w r N v l) (hk : Kept X w w1) (hX : ∀ x ∈ X, x < lim ∧ ∀ t, t < 4 → x ≠ r t) : Rws e lim w1 r N v l := by
  have hr : ∀ t, t < 4 → r t ∉ X := fun t ht hm => (hX _ hm).2 t ht rfl
  have hrl : ∀ t, t < 4 → r t < w.heap.size := fun t ht => Nat.lt_of_lt_of_le (h.rlt t ht) h.hlim
  exact ⟨fun t i ht hi => (hk.cell (r t) i (hrl t ht) (hr t ht)).trans (h.cell t i ht hi), fun t i ht => (hk.frozen (r t) i (hrl t ht) (hr t ht)).trans (h.fr t i ht), h.rlt, Nat.le_trans h.hlim hk.size, h.rr,
    fun t i ht hi => own_kept2 (h.own t i ht hi) hk (fun g hg hm => by have h1 := own_ge (h.own t i ht hi) hg; have h2 := (hX g hm).1; omega), h.vv⟩
/-- A slice gets one more number. -/
theorem Rws.snoc {t i : Nat} {v' : Value} {l' : List Int} (h : Rws e lim w r N v l) (ht : t < 4) (hi : i < N) (hk : Kept (v t i).ownBlock.toList w w1) (hv : w1.ownsRow lim e 1 v' l'.length (l'.map (Value.int .i64)))
    (hg : ∀ g, v'.ownBlock = some g → (v t i).ownBlock = some g ∨ w.heap.size ≤ g) : Rws e lim (w1.setCell ⟨r t, i, none⟩ v') r N (upd2 v t i v') (upd2 l t i l') := by
  have hrl : ∀ t, t < 4 → r t < w.heap.size := fun t ht => Nat.lt_of_lt_of_le (h.rlt t ht) h.hlim
  have hvr : ∀ t' i' g, t' < 4 → i' < N → (v t' i').ownBlock = some g → ∀ t'', t'' < 4 → g ≠ r t'' := fun t' i' g ht' hi' hg' t'' ht'' e => by
    have h1 := own_ge (h.own t' i' ht' hi') hg'
    have h2 := h.rlt t'' ht''
    omega
  have hrn : ∀ t', t' < 4 → r t' ∉ (v t i).ownBlock.toList := fun t' ht' hm => hvr t i _ ht hi (by simpa using hm) t' ht' rfl
  have hk2 : Kept (r t :: (v t i).ownBlock.toList) w (w1.setCell ⟨r t, i, none⟩ v') := (keptWide hk (fun x hx => List.mem_cons_of_mem _ hx)).set (r t) i v' (.inl (by simp))
  have hv'r : ∀ g, v'.ownBlock = some g → g ≠ r t := fun g hg' => by
    rcases hg g hg' with h1 | h1
    · exact hvr t i g ht hi h1 t ht
    · have := hrl t ht; omega
  refine ⟨fun t' i' ht' hi' => ?_, fun t' i' ht' => ?_, h.rlt, Nat.le_trans h.hlim (by simpa [World.setCell] using hk.size), h.rr, fun t' i' ht' hi' => ?_, fun t1 i1 t2 i2 x h1 h2 h3 h4 h5 h6 => ?_⟩
  · have hc := (hk.cell (r t') i' (hrl t' ht') (hrn t' ht')).trans (h.cell t' i' ht' hi')
    by_cases e1 : t' = t ∧ i' = i
    · obtain ⟨rfl, rfl⟩ := e1
      rw [upd2_at]
      exact set_same hc
    · rw [upd2_ne e1, set_other]
      · exact hc
      · by_cases e2 : t' = t
        · right; intro e3; exact e1 ⟨e2, e3.symm⟩
        · left; intro e3; exact e2 (h.rr t' t ht' ht e3.symm)
  · have := (hk.frozen (r t') i' (hrl t' ht') (hrn t' ht')).trans (h.fr t' i' ht')
    simpa using this
  · by_cases e1 : t' = t ∧ i' = i
    · obtain ⟨rfl, rfl⟩ := e1
      rw [upd2_at, upd2_at]
      exact own_kept2 hv ((Kept.refl [r t'] w1).set (r t') i' v' (.inl (by simp))) (fun g hg' => by simpa using hv'r g hg')
    · rw [upd2_ne e1, upd2_ne e1]
      refine own_kept2 (h.own t' i' ht' hi') hk2 (fun g hg' hm => ?_)
      rcases List.mem_cons.1 hm with h1 | h1
      · exact hvr t' i' g ht' hi' hg' t ht h1
      · exact e1 (h.vv t' i' t i g ht' ht hi' hi hg' (by simpa using h1))
  · by_cases e1 : t1 = t ∧ i1 = i
    · obtain ⟨rfl, rfl⟩ := e1
      rw [upd2_at] at h5
      by_cases e2 : t2 = t1 ∧ i2 = i1
      · exact ⟨e2.1.symm, e2.2.symm⟩
      · rw [upd2_ne e2] at h6
        rcases hg x h5 with h7 | h7
        · exact h.vv t1 i1 t2 i2 x h1 h2 h3 h4 h7 h6
        · have := own_lt2 (h.own t2 i2 h2 h4) h6; omega
    · rw [upd2_ne e1] at h5
      by_cases e2 : t2 = t ∧ i2 = i
      · obtain ⟨rfl, rfl⟩ := e2
        rw [upd2_at] at h6
        rcases hg x h6 with h7 | h7
        · exact h.vv t1 i1 t2 i2 x h1 h2 h3 h4 h5 h7
        · have := own_lt2 (h.own t1 i1 h1 h3) h5; omega
      · rw [upd2_ne e2] at h6
        exact h.vv t1 i1 t2 i2 x h1 h2 h3 h4 h5 h6
namespace If
open Sp
/-- The four rows, each filled so far. -/
def LK0 (p : Pb) (k i : Nat) : List Int := ofNats ((List.range k).filter fun k => (ge p.es k).a == (i : Int))
def LK1 (p : Pb) (k i : Nat) : List Int := ofNats ((List.range k).filter fun k => (ge p.es k).k == 2 && (ge p.es k).b == (i : Int))
def LK2 (p : Pb) (k i : Nat) : List Int := ofNats ((List.range k).filter fun k => ((ge p.es k).k == 3 || (ge p.es k).k == 4) && (ge p.es k).c == (i : Int))
def LK3 (p : Pb) (j i : Nat) : List Int := ((p.sd.take j).filter fun s => s.n == (i : Int)).map Sd.f
def LK (p : Pb) (k0 k1 k2 j : Nat) (t i : Nat) : List Int :=
  match t with
  | 0 => LK0 p k0 i
  | 1 => LK1 p k1 i
  | 2 => LK2 p k2 i
  | 3 => LK3 p j i
  | _ => []
theorem filter_one {f : Nat → Bool} (k : Nat) : (List.range (k + 1)).filter f = if f k = true then (List.range k).filter f ++ [k] else (List.range k).filter f := by
  rw [List.range_succ, List.filter_append]
  by_cases h : f k = true
  · simp [h]
  · simp [h]
theorem ofNats_snoc (l : List Nat) (k : Nat) : ofNats (l ++ [k]) = ofNats l ++ [(k : Int)] := by simp [ofNats]
theorem LK_out {p : Pb} {k1 k2 j k ea : Nat} (h : (ge p.es k).a = (ea : Int)) : LK p (k + 1) k1 k2 j = upd2 (LK p k k1 k2 j) 0 ea (LK p k k1 k2 j 0 ea ++ [(k : Int)]) := by
  funext t i
  by_cases e : t = 0 ∧ i = ea
  · obtain ⟨rfl, rfl⟩ := e
    rw [upd2_at]
    show LK0 p (k + 1) i = LK0 p k i ++ [(k : Int)]
    unfold LK0
    rw [filter_one, if_pos (by simp [h]), ofNats_snoc]
  · rw [upd2_ne e]
    match t, e with
    | 0, e =>
      have e : i ≠ ea := fun h => e ⟨rfl, h⟩
      show LK0 p (k + 1) i = LK0 p k i
      unfold LK0
      rw [filter_one, if_neg (by simp [h]; omega)]
    | 1, _ => rfl
    | 2, _ => rfl
    | 3, _ => rfl
    | _ + 4, _ => rfl
theorem LK_call {p : Pb} {k0 k2 j k eb : Nat} (h2 : (ge p.es k).k = 2) (h : (ge p.es k).b = (eb : Int)) : LK p k0 (k + 1) k2 j = upd2 (LK p k0 k k2 j) 1 eb (LK p k0 k k2 j 1 eb ++ [(k : Int)]) := by
  funext t i
  by_cases e : t = 1 ∧ i = eb
  · obtain ⟨rfl, rfl⟩ := e
    rw [upd2_at]
    show LK1 p (k + 1) i = LK1 p k i ++ [(k : Int)]
    unfold LK1
    rw [filter_one, if_pos (by simp [h, h2]), ofNats_snoc]
  · rw [upd2_ne e]
    match t, e with
    | 1, e =>
      have e : i ≠ eb := fun h => e ⟨rfl, h⟩
      show LK1 p (k + 1) i = LK1 p k i
      unfold LK1
      rw [filter_one, if_neg (by simp [h, h2]; omega)]
    | 0, _ => rfl
    | 2, _ => rfl
    | 3, _ => rfl
    | _ + 4, _ => rfl
theorem LK_nocall {p : Pb} {k0 k2 j k : Nat} (h2 : (ge p.es k).k ≠ 2) : LK p k0 (k + 1) k2 j = LK p k0 k k2 j := by
  funext t i
  match t with
  | 1 =>
    show LK1 p (k + 1) i = LK1 p k i
    unfold LK1
    rw [filter_one, if_neg (by simp [h2])]
  | 0 => rfl
  | 2 => rfl
  | 3 => rfl
  | _ + 4 => rfl
theorem LK_ret {p : Pb} {k0 k1 j k ec : Nat} (h2 : (ge p.es k).k = 3 ∨ (ge p.es k).k = 4) (h : (ge p.es k).c = (ec : Int)) : LK p k0 k1 (k + 1) j = upd2 (LK p k0 k1 k j) 2 ec (LK p k0 k1 k j 2 ec ++ [(k : Int)]) := by
  funext t i
  by_cases e : t = 2 ∧ i = ec
  · obtain ⟨rfl, rfl⟩ := e
    rw [upd2_at]
    show LK2 p (k + 1) i = LK2 p k i ++ [(k : Int)]
    unfold LK2
    rw [filter_one, if_pos (by simp [h, h2]), ofNats_snoc]
  · rw [upd2_ne e]
    match t, e with
    | 2, e =>
      have e : i ≠ ec := fun h => e ⟨rfl, h⟩
      show LK2 p (k + 1) i = LK2 p k i
      unfold LK2
      rw [filter_one, if_neg (by simp [h]; omega)]
    | 0, _ => rfl
    | 1, _ => rfl
    | 3, _ => rfl
    | _ + 4, _ => rfl
theorem LK_noret {p : Pb} {k0 k1 j k : Nat} (h2 : ¬ ((ge p.es k).k = 3 ∨ (ge p.es k).k = 4)) : LK p k0 k1 (k + 1) j = LK p k0 k1 k j := by
  funext t i
  match t with
  | 2 =>
    show LK2 p (k + 1) i = LK2 p k i
    unfold LK2
    rw [filter_one, if_neg (by simp; intro h3; exact absurd h3 h2)]
  | 0 => rfl
  | 1 => rfl
  | 3 => rfl
  | _ + 4 => rfl
theorem LK_seed {p : Pb} {k0 k1 k2 j sn : Nat} (hj : j < p.sd.length) (h : (gd p.sd j).n = (sn : Int)) : LK p k0 k1 k2 (j + 1) = upd2 (LK p k0 k1 k2 j) 3 sn (LK p k0 k1 k2 j 3 sn ++ [(gd p.sd j).f]) := by
  rw [gd_lt hj] at h ⊢
  funext t i
  by_cases e : t = 3 ∧ i = sn
  · obtain ⟨rfl, rfl⟩ := e
    rw [upd2_at]
    show LK3 p (j + 1) i = LK3 p j i ++ _
    unfold LK3
    rw [List.take_succ_eq_append_getElem hj, List.filter_append, List.map_append]
    simp [h]
  · rw [upd2_ne e]
    match t, e with
    | 0, _ => rfl
    | 1, _ => rfl
    | 2, _ => rfl
    | 3, e =>
      have e : i ≠ sn := fun h => e ⟨rfl, h⟩
      show LK3 p (j + 1) i = LK3 p j i
      unfold LK3
      rw [List.take_succ_eq_append_getElem hj, List.filter_append]
      simp [h]
      omega
    | _ + 4, _ => rfl
theorem LK_nil (p : Pb) (t i : Nat) : LK p 0 0 0 0 t i = [] := by
  match t with
  | 0 => rfl
  | 1 => rfl
  | 2 => rfl
  | 3 => rfl
  | _ + 4 => rfl
theorem LK_len {p : Pb} {k0 k1 k2 j m : Nat} (h0 : k0 ≤ m) (h1 : k1 ≤ m) (h2 : k2 ≤ m) (h3 : j ≤ m) (t i : Nat) : (LK p k0 k1 k2 j t i).length ≤ m := by
  have hf : ∀ (f : Nat → Bool) (k : Nat), ((List.range k).filter f).length ≤ k := fun f k => Nat.le_trans (List.length_filter_le _ _) (by simp)
  match t with
  | 0 => show (LK0 p k0 i).length ≤ m; unfold LK0; rw [ofNats_len]; exact Nat.le_trans (hf _ _) h0
  | 1 => show (LK1 p k1 i).length ≤ m; unfold LK1; rw [ofNats_len]; exact Nat.le_trans (hf _ _) h1
  | 2 => show (LK2 p k2 i).length ≤ m; unfold LK2; rw [ofNats_len]; exact Nat.le_trans (hf _ _) h2
  | 3 =>
    show (LK3 p j i).length ≤ m
    unfold LK3
    rw [List.length_map]
    refine Nat.le_trans (List.length_filter_le _ _) ?_
    rw [List.length_take]
    omega
  | _ + 4 => exact Nat.zero_le _
end If
theorem Rws.init {p : If.Pb} {e tS : TypeId} {w : World} {g4 g6 g8 g10 n : Nat} {MR : Array Value} (h4 : w.heap[g4]? = some (.cells MR tS (0, 0))) (h6 : w.heap[g6]? = some (.cells MR tS (0, 0))) (h8 : w.heap[g8]? = some (.cells MR tS (0, 0))) (h10 : w.heap[g10]? = some (.cells MR tS (0, 0)))
    (hM : ∀ i, i < n → MR[i]? = some (.slice none 0 0)) (n1 : g4 ≠ g6) (n2 : g4 ≠ g8) (n3 : g4 ≠ g10) (n4 : g6 ≠ g8) (n5 : g6 ≠ g10) (n6 : g8 ≠ g10) : Rws e w.heap.size w (rsel g4 g6 g8 g10) n (fun _ _ => .slice none 0 0) (If.LK p 0 0 0 0) := by
  have hr : ∀ t, t < 4 → w.heap[rsel g4 g6 g8 g10 t]? = some (.cells MR tS (0, 0)) := fun t ht => by
    match t, ht with
    | 0, _ => exact h4
    | 1, _ => exact h6
    | 2, _ => exact h8
    | 3, _ => exact h10
  refine ⟨fun t i ht hi => by simp [World.cell?, hr t ht, hM i hi], fun t i ht => by simp [World.frozen?, hr t ht], fun t ht => (Array.getElem?_eq_some_iff.1 (hr t ht)).1, Nat.le_refl _, fun t t' ht ht' e => ?_, fun t i _ _ => ?_, fun t i t' i' x _ _ _ _ h _ => by cases h⟩
  · match t, t', ht, ht' with
    | 0, 0, _, _ => rfl
    | 0, 1, _, _ => exact absurd e n1
    | 0, 2, _, _ => exact absurd e n2
    | 0, 3, _, _ => exact absurd e n3
    | 1, 0, _, _ => exact absurd e.symm n1
    | 1, 1, _, _ => rfl
    | 1, 2, _, _ => exact absurd e n4
    | 1, 3, _, _ => exact absurd e n5
    | 2, 0, _, _ => exact absurd e.symm n2
    | 2, 1, _, _ => exact absurd e.symm n4
    | 2, 2, _, _ => rfl
    | 2, 3, _, _ => exact absurd e n6
    | 3, 0, _, _ => exact absurd e.symm n3
    | 3, 1, _, _ => exact absurd e.symm n5
    | 3, 2, _, _ => exact absurd e.symm n6
    | 3, 3, _, _ => rfl
  · rw [If.LK_nil]
    exact World.ownsRow_nil _ _ _ _
end Go.Df
namespace Go.Proofs.YtmbihjlflcjlnaaGreat
open Go.RowKit Go.Df Go.Df.If
/-- Pop at a worklist without a rank that is not empty. -/
theorem pop_some {rA qA : Option Addr} {rc qn qc n : Nat} {r : List Nat} {N : Nat} (w : World) (hr : SIn w rA 0 rc []) (hq : SIn w qA qn qc (ofNats (n :: r))) (hd : (n :: r).Nodup) (hN : ∀ x ∈ n :: r, x < N) (h8 : N ≤ 8192) :
    Calls Tryz.prog 58 #[.agg #[.slice rA 0 rc, .slice qA qn qc]] w (GetPop w (n : Int) [] (ofNats r) true) := by
  have hc := wl_ok hd hN h8
  have hl : qn = r.length + 1 := by have := hq.1.1; rw [ofNats_len] at this; simpa using this.symm
  have e1 : gi (ofNats (n :: r)) 0 = (n : Int) := by rw [gi_ofNats (by simp)]; rfl
  have e2 : (ofNats (n :: r)).drop 1 = ofNats r := by simp [ofNats]
  have key : Calls Tryz.prog 58 #[.agg #[.slice rA 0 rc, .slice qA qn qc]] w (GetPop w (gi (ofNats (n :: r)) 0) [] ((ofNats (n :: r)).drop 1) true) := by
    by_cases h2 : 2 ≤ qn
    · exact pop_two rA qA 0 rc qn qc [] (ofNats (n :: r)) w hr.1 hq.1 hc h2 hq.2.1 (fun _ => rfl)
    · obtain rfl : qn = 1 := by omega
      exact pop_one rA qA 0 rc qc [] (ofNats (n :: r)) w hr.1 hq.1 hc hq.2.1 (fun _ => rfl)
  rw [e1, e2] at key
  exact key
/-- The tabulation is done: the solver holds the path edges. -/
def GetTab (p : Pb) (w : World) (e : Ending) (w' : World) : Prop := ∃ K g O G s, e = .returned (.pointer (some ⟨g, 0, none⟩)) ∧ Inp p K w ∧ Mem p K w g O G w' s ∧ (∀ a m d, s.h m a d = true ↔ PE p a m d) ∧ Wf p s
end Go.Proofs.YtmbihjlflcjlnaaGreat
/- A walk over a map whose elements are kept as they are (keys: int). No program in sight. -/
namespace Go.Df
open Go.RowKit Go.Maps Go.ChangeMaps
/-- A walk under way over a map: left says which keys are still to come, cnt how many. -/
def RgT (P : Program) (k : TypeId) (z : Value) (w : World) (b r n : Nat) (f : Value → Value) (left : Lit → Bool) (cnt : Nat) : Prop :=
  ∃ D : DataW Value, w.ranges P k tokElem b r n D left cnt ∧ ∀ key kl, keyOf P k key = some kl → D.atKey kl (.held z) = .held (f key)
variable {P : Program} {k : TypeId} {z : Value} {w w' : World} {b r n : Nat} {f : Value → Value} {left : Lit → Bool} {cnt : Nat}
theorem RgT.left_eq (h : RgT P k z w b r n f left cnt) : w.rangeLeft b r = cnt := let ⟨_, h1, _⟩ := h; h1.left_eq
theorem RgT.lt (h : RgT P k z w b r n f left cnt) : r < w.heap.size := let ⟨_, h1, _⟩ := h; h1.lt
theorem RgT.grown {row : Option Nat} (h : RgT P k z w b r n f left cnt) (hg : w.grownBy w' row) (hb : some b ≠ row) (hr : some r ≠ row) : RgT P k z w' b r n f left cnt :=
  let ⟨D, h1, h2⟩ := h; ⟨D, h1.kept hg hb hr, h2⟩
theorem grown_of_kept {X : List Nat} (h : Kept X w w') (hX : X = []) : w.grownBy w' none := by
  subst hX
  exact ⟨h.os, h.tape, h.output, h.size, fun i hi _ => h.block i hi (by simp)⟩
theorem kept_of_grown {row : Option Nat} (h : w.grownBy w' row) : Kept row.toList w w' :=
  ⟨h.os, h.tape, h.output, h.size, fun i hi hn => h.block i hi (fun e => hn (by rw [← e]; simp))⟩
theorem RgT.kept {X : List Nat} (h : RgT P k z w b r n f left cnt) (hk : Kept X w w') (hb : b ∉ X) (hr : r ∉ X) : RgT P k z w' b r n f left cnt := by
  obtain ⟨D, ⟨es, clock, since, seen, c0, h1, F, hs, hD, h2, rest⟩, h3⟩ := h
  have hlb := (Array.getElem?_eq_some_iff.1 h1).1
  have hlr := (Array.getElem?_eq_some_iff.1 h2).1
  exact ⟨D, ⟨es, clock, since, seen, c0, (hk.block b hlb hb).trans h1, F, hs, hD, (hk.block r hlr hr).trans h2, rest⟩, h3⟩
section
variable {ops : Array Oper} {rest : List Oper} {o : Oper} {a : Act} {Q : Exit → Act → World → Prop}
theorem wpList_range_mapT (hg : o.guard = none) (m : Operand) (t : TypeId) (hop : o.op = Op.range t m) (e : TypeId) (K : Keyed P k) (ht : P.underlying t = some (.map k e))
    (hm : a.eval m = .map (some b)) (hown : MapT P k z w b n f)
    (hK : ∀ w' left cnt, RgT P k z w' b w.heap.size n f left cnt → (∀ key kl, keyOf P k key = some kl → left kl = false → f key = z) → Kept [] w w' → w'.heap.size = w.heap.size + 1 → wpList P ops Q rest (a.put o.dst (.pointer (some ⟨w.heap.size, 0, none⟩))) w') :
    wpList P ops Q (o :: rest) a w := by
  obtain ⟨D, h1, h2⟩ := hown
  refine wpList_range_own w hg m t hop k e K ht tokElem b n D hm h1 fun w' hr hgr hsz => ?_
  refine hK w' _ _ ⟨D, hr, h2⟩ (fun key kl hk hl => ?_) (kept_of_grown hgr) hsz
  have h3 := h2 key kl hk
  rw [atKey_of_not_has hl] at h3
  injection h3 with h3
  exact h3.symm
theorem wpList_next_mapT (hg : o.guard = none) (it : Operand) (hop : o.op = Op.next it false) (q : IntKind) (K : Keyed P k) (hk : P.underlying k = some (.int q))
    (hit : a.eval it = .pointer (some ⟨r, 0, none⟩)) (h : RgT P k z w b r n f left cnt)
    (hDone : cnt = 0 → (∀ kl, left kl = false) → wpList P ops Q rest (a.put o.dst (.tuple #[.bool false])) w)
    (hMore : ∀ (x : Int) (w' : World) (cnt' : Nat), (Lit.int q x).wf = true → left (.int q x) = true → RgT P k z w' b r n f (fun y => left y && !y.sameKey (.int q x)) cnt' → cnt' < cnt → Kept [r] w w' → w'.heap.size = w.heap.size →
      (Instr.entry (.pointer (some ⟨r, 0, none⟩))).run P w' = .ok (.tuple #[.int q x, f (.int q x)]) w' → wpList P ops Q rest (a.put o.dst (.tuple #[.bool true, .int q x, f (.int q x)])) w') :
    wpList P ops Q (o :: rest) a w := by
  obtain ⟨D, h1, h2⟩ := h
  refine wpList_next_ranges w hg it hop k K tokElem (Value.int q) id (fun key kl hkey => by obtain ⟨x, rfl, _⟩ := Maps.keyOf_int_inv hk hkey; exact ⟨x, rfl⟩) (fun v y _ => ⟨v, rfl⟩) b r n D left cnt hit h1 hDone ?_
  intro x c kl y w' cnt' hkey hlk hv hat hrg hlt hgr hsz hen
  obtain ⟨x', ex, rfl, hwx⟩ := Maps.keyOf_int_inv hk hkey
  cases ex
  have h3 := h2 _ _ hkey
  rw [hat] at h3
  have h4 : y = (.held c, []) := by
    have : tokElem (id c) = some y := hv
    unfold tokElem at this
    exact (Option.some.inj this).symm
  rw [h4] at h3
  injection h3 with h3
  have h3 : c = f (.int q x) := h3
  subst h3
  exact hMore x w' cnt' hwx hlk ⟨D, hrg, h2⟩ hlt (kept_of_grown hgr) hsz hen
end
/-- A walk over a map that may be nil. -/
def RgO (P : Program) (k : TypeId) (z : Value) (w : World) (m : Option Nat) (r n : Nat) (f : Value → Value) (left : Lit → Bool) (cnt : Nat) : Prop :=
  match m with
  | some b => RgT P k z w b r n f left cnt
  | none => w.heap[r]? = some (.mapIter none 0 #[] 0) ∧ cnt = 0 ∧ ∀ kl, left kl = false
/-- How many keys are still to come. -/
def leftO (w : World) (m : Option Nat) (r : Nat) : Nat := match m with | some b => w.rangeLeft b r | none => 0
theorem RgO.left_eq {m : Option Nat} (h : RgO P k z w m r n f left cnt) : leftO w m r = cnt := by
  cases m with
  | some b => exact RgT.left_eq h
  | none => exact h.2.1.symm
theorem RgO.lt {m : Option Nat} (h : RgO P k z w m r n f left cnt) : r < w.heap.size := by
  cases m with
  | some b => exact RgT.lt h
  | none => exact (Array.getElem?_eq_some_iff.1 h.1).1
theorem RgO.kept {m : Option Nat} {X : List Nat} (h : RgO P k z w m r n f left cnt) (hk : Kept X w w') (hb : ∀ b, m = some b → b ∉ X) (hr : r ∉ X) : RgO P k z w' m r n f left cnt := by
  cases m with
  | some b => exact RgT.kept h hk (hb b rfl) hr
  | none => exact ⟨(hk.block r (RgO.lt (m := none) h) hr).trans h.1, h.2⟩
section
variable {ops : Array Oper} {rest : List Oper} {o : Oper} {a : Act} {Q : Exit → Act → World → Prop}
theorem wpList_range_mapO (hg : o.guard = none) (m : Operand) (t : TypeId) (hop : o.op = Op.range t m) (e : TypeId) (K : Keyed P k) (ht : P.underlying t = some (.map k e)) (mm : Option Nat)
    (hm : a.eval m = .map mm) (hown : ∀ b, mm = some b → MapT P k z w b n f) (hno : mm = none → ∀ key, f key = z)
    (hK : ∀ w' left cnt, RgO P k z w' mm w.heap.size n f left cnt → (∀ key kl, keyOf P k key = some kl → left kl = false → f key = z) → Kept [] w w' → w'.heap.size = w.heap.size + 1 → wpList P ops Q rest (a.put o.dst (.pointer (some ⟨w.heap.size, 0, none⟩))) w') :
    wpList P ops Q (o :: rest) a w := by
  cases mm with
  | some b => exact wpList_range_mapT hg m t hop e K ht hm (hown b rfl) (fun w' left cnt h => hK w' left cnt h)
  | none =>
    refine wpList_plain hg fun K' hK' => ?_
    unfold Oper.wp
    simp [execOp, hop, hm, run_range_nilMap w t k e ht, Result.andThen]
    exact hK' _ _ (hK _ (fun _ => false) 0 ⟨heap_alloc_new w _, rfl, fun _ => rfl⟩ (fun key _ _ _ => hno rfl key) ((Kept.refl _ _).alloc _) (by simp))
theorem wpList_next_mapO (hg : o.guard = none) (it : Operand) (hop : o.op = Op.next it false) (q : IntKind) (K : Keyed P k) (hk : P.underlying k = some (.int q)) (mm : Option Nat)
    (hit : a.eval it = .pointer (some ⟨r, 0, none⟩)) (h : RgO P k z w mm r n f left cnt)
    (hDone : cnt = 0 → (∀ kl, left kl = false) → wpList P ops Q rest (a.put o.dst (.tuple #[.bool false])) w)
    (hMore : ∀ (x : Int) (w' : World) (cnt' : Nat), (Lit.int q x).wf = true → left (.int q x) = true → RgO P k z w' mm r n f (fun y => left y && !y.sameKey (.int q x)) cnt' → cnt' < cnt → Kept [r] w w' → w'.heap.size = w.heap.size →
      (Instr.entry (.pointer (some ⟨r, 0, none⟩))).run P w' = .ok (.tuple #[.int q x, f (.int q x)]) w' → wpList P ops Q rest (a.put o.dst (.tuple #[.bool true, .int q x, f (.int q x)])) w') :
    wpList P ops Q (o :: rest) a w := by
  cases mm with
  | some b => exact wpList_next_mapT hg it hop q K hk hit h hDone hMore
  | none =>
    refine wpList_plain hg fun K' hK' => ?_
    have hrun : ∀ ty, (Instr.next (.pointer (some ⟨r, 0, none⟩)) false ty).run P w = .ok (.tuple #[.bool false]) w := fun ty => by
      simp only [Instr.next, getObj, Sem.run_bind, Sem.run, h.1, Result.andThen]
      rfl
    unfold Oper.wp
    simp [execOp, hop, hit, hrun, Result.andThen]
    exact hK' _ _ (hDone h.2.1 h.2.2)
end
end Go.Df
