/- Texts: Qa Qb Qc Qe Lr In Qf Qg Qh Ql Qm. -/
import Derived.Test.YtincpmdldpakkaaGreatDoorMt20
import Derived.Test.YtincpmdldpakkaaGreatDoorMt02
import Derived.ProofKit
import Derived.Lib.SmallJoins
import Derived.Deep.Slices
import Derived.Laws.Bits64b
import Derived.Laws.MakeOwn
namespace Go.Proofs.YtincpmdldpakkaaGreatDoor
open Go.RowKit Go.Df
set_option maxHeartbeats 400000 in
theorem allowed_any (A1 A2 : Option Addr) (n1 c1 n2 c2 : Nat) (x : Int) (w : World) :
   Calls Tryz.prog 198 #[.agg #[.slice A1 n1 c1,.slice A2 n2 c2],.int .i64 x] w fun e w' => e = .returned (.bool (Wl.allowed n1 x)) ∧ Below w.heap.size w w':=by
 go_enter Tryz.func198,Tryz.ntmps198
 go_wp2
 all_goals (go_ret;refine ⟨ret_bool ?_,by go_grown⟩;simp_all [Wl.allowed] <;> omega)
set_option maxHeartbeats 400000 in
theorem before_q (A : Option Addr) (n c : Nat) (r : List Int) (x y : Int) (w : World) (hr : Ints w A n r) (x0 : 0 ≤ x) (xn : x < n) (y0 : 0 ≤ y) (yn : y < n) :
   Calls Tryz.prog 200 #[.slice A n c,.int .i64 x,.int .i64 y] w fun e w' => e = .returned (.bool (Wl.before r x y)) ∧ ∃ q,w' = w.drewN q:=by
 obtain ⟨k,rfl⟩:=Int.eq_ofNat_of_zero_le x0
 obtain ⟨m,rfl⟩:=Int.eq_ofNat_of_zero_le y0
 obtain ⟨b,o,rfl,hl,hc⟩:=hr.at_ (by omega)
 have hx:=hc k (by omega)
 have hy:=hc m (by omega)
 clear hc hr
 by_cases e : gi r k = gi r m
 · have e' : (gi r k != gi r m) = false:=by simp [e]
   have E:=Lib.hid e
   clear e
   go_enter Tryz.func200,Tryz.ntmps200
   go_wp2
   go_quiet (fail)
   go_wp2
   go_ret
   exact ⟨ret_bool (by simp [Wl.before,E.out]),⟨_,rfl⟩⟩
 · have e' : (gi r k != gi r m) = true:=by simp [e]
   go_enter Tryz.func200,Tryz.ntmps200
   go_wp2
   go_quiet (fail)
   go_wp2
   go_quiet (fail)
   go_wp2
   go_ret
   exact ⟨ret_bool (by simp [Wl.before,e]),by first | exact ⟨_,rfl⟩ | exact ⟨_,World.drewN_drewN _ _ _⟩⟩
set_option maxHeartbeats 400000 in
theorem index_any (A : Option Addr) (n c : Nat) (l : List Int) (x : Int) (w : World) (hr : Ints w A n l) (hn : n ≤ 9223372036854775807) :
   Calls Tryz.prog 207 #[.slice A n c,.int .i64 x] w fun e w' => e = .returned (.int .i64 (Wl.index l x)) ∧ w = w':=by
 rcases Nat.eq_zero_or_pos n with rfl | hp
 · have h0 : l = []:=List.eq_nil_of_length_eq_zero hr.1
   have H:=Lib.hid h0
   clear h0 hr
   go_enter Tryz.func207,Tryz.ntmps207
   go_wp2
   refine wp_loop_rounds 1 ?_
   rw [rounds_succ]
   go_wp2
   go_ret
   exact ⟨ret_int (by rw [H.out];rfl),rfl⟩
 · obtain ⟨b,o,rfl,hl,hc⟩:=hr.at_ hp
   have HL:=Lib.hid hr.1
   have HC:=Lib.hid hc
   clear hc hr
   go_enter Tryz.func207,Tryz.ntmps207
   go_wp2
   go_loop [8] (fun i => ∃ k : Nat,k ≤ n ∧ i = .int .i64 k ∧ Hid (∀ j,j < k → gi l j ≠ x)) (fun i => n - (intOf i).toNat)
   case atStart => exact ⟨0,Nat.zero_le _,rfl,Lib.hid (fun j hj => absurd hj (by omega))⟩
   case round =>
     obtain ⟨k,hk,rfl,hj⟩:=hrel
     by_cases hlt : k < n
     · have hcell:=HC.out k hlt
       go_wp2
       · go_ret
         refine ⟨ret_int (Wl.index_hit hj.out (by rw [HL.out];exact hlt) ?_).symm,rfl⟩
         simp_all
       · go_round
         case rel =>
           refine ⟨k + 1,by omega,by go_num,Lib.hid (fun j hj1 => ?_)⟩
           rcases Nat.lt_or_ge j k with h2 | h2
           · exact hj.out j h2
           · obtain rfl : j = k:=by omega
             intro e
             simp_all
         case measure => simp [intOf];omega
     · go_wp2
       go_ret
       refine ⟨ret_int (Wl.index_miss (fun j hj1 => hj.out j (by rw [HL.out] at hj1;omega))).symm,rfl⟩
set_option maxHeartbeats 400000 in
theorem contains_any (A : Option Addr) (n c : Nat) (l : List Int) (x : Int) (w : World) (hr : Ints w A n l) (hn : n ≤ 9223372036854775807) :
   Calls Tryz.prog 199 #[.slice A n c,.int .i64 x] w fun e w' => e = .returned (.bool (decide (x ∈ l))) ∧ w = w':=by
 have H:=Lib.hid hr
 clear hr
 go_enter Tryz.func199,Tryz.ntmps199
 go_wp2_with fail
 refine (index_any _ _ _ l _ _ H.out hn).mono ?_
 rintro e w1 ⟨rfl,rfl⟩
 go_wp2_with fail
 go_ret
 exact ⟨ret_bool (by rw [decide_eq_decide];exact Wl.index_nonneg l x),rfl⟩
set_option maxHeartbeats 1000000 in
theorem clone_any (A : Option Addr) (n c : Nat) (l : List Int) (w : World) (hr : Ints w A n l) (hn : n ≤ 1000000) (hA : A = none → n = 0) :
   Calls Tryz.prog 179 #[.slice A n c] w fun e w' => ∃ v,e = .returned v ∧ w'.ownsRow w.heap.size 3 1 v n (l.map (Value.int .i64)) ∧ Below w.heap.size w w':=by
 obtain ⟨i0,hi,hz0,hz1,hz2⟩:=info_parts int_info
 cases A with
 | none =>
   obtain rfl:=hA rfl
   have h0 : l = []:=List.eq_nil_of_length_eq_zero hr.1
   subst h0
   clear hr hA
   have hq:=fun w => Lib.run_eql_slice_nil (P:=Tryz.prog) w 30 3 none 0 c 0 0 Tryz.underlying30
   go_enter Tryz.func179,Tryz.ntmps179
   go_wp2
   go_ret
   exact ⟨_,rfl,⟨by simp,.inl ⟨rfl,rfl⟩⟩,Below.refl _ _⟩
 | some a =>
   have hq:=fun w => Lib.run_eql_slice_nil (P:=Tryz.prog) w 30 3 (some a) n c 0 0 Tryz.underlying30
   have HR:=Lib.hid hr
   have HL:=Lib.hid hr.1
   clear hr hA
   go_enter Tryz.func179,Tryz.ntmps179
   go_wp2_with (at_builtin;refine wpList_append_own _ rfl _ _ 30 rfl w.heap.size 3 i0 (.int .i64 0) 1 8 Tryz.underlying30 hi hz0 hz1 hz2 rfl (by decide) _ 0 [] rfl ?c0 a n c (l.map (Value.int .i64)) rfl ?cl ?c1 ?c2 ?c3 ?c4 ?c5 ?_)
   case c0 =>
     refine ⟨rfl,.inr ⟨w.heap.size,0,#[],rfl,Nat.le_refl _,heap_alloc_new w _,Nat.le_refl _,Nat.zero_le _,rfl,rfl⟩⟩
   case cl => simp [HL.out]
   case c1 => exact (HR.out.later ((Below.refl _ _).alloc (Nat.le_refl _) _)).news
   case c2 => exact ints_one l
   case c3 => unfold maxLen;omega
   case c4 => omega
   case c5 => simp
   intro v' w1 hown1 hgrow _
   have hB1 : Below w.heap.size w w1:=((Below.refl _ _).alloc (Nat.le_refl _) _).grown hgrow (by simp) (fun g hg => by simp [Value.ownBlock] at hg;omega)
   clear hgrow
   go_wp2
   go_ret
   exact ⟨_,rfl,hown1,hB1⟩
end Go.Proofs.YtincpmdldpakkaaGreatDoor
namespace Go.Df
open Go.RowKit Go.ChangeShapes Go.WideShapes
theorem mapM_later {α β : Type} {f g : α → Option β} : ∀ {l : List α} {r : List β},(∀ a ∈ l,∀ b,f a = some b → g a = some b) → l.mapM f = some r → l.mapM g = some r
 | [],r,_,h => h
 | a :: l,r,hfg,h => by
   rw [List.mapM_cons] at h ⊢
   cases ha : f a with
   | none => simp [ha] at h
   | some b =>
     cases hl : l.mapM f with
     | none => simp [ha,hl] at h
     | some bs =>
       rw [hfg a (by simp) b ha,mapM_later (fun x hx => hfg x (by simp [hx])) hl]
       simpa [ha,hl] using h
theorem block_add (a : Addr) (n : Nat) : (a.add n).block = a.block:=by unfold Addr.add;split <;> rfl
theorem cell_lt {w : World} {p : Addr} {v : Value} (h : w.cell? p = some v) : p.block < w.heap.size:=by
 rcases Nat.lt_or_ge p.block w.heap.size with h1 | h1
 · exact h1
 · simp [World.cell?,Array.getElem?_eq_none h1] at h
section
variable {H : Type} {enc : TypeId × Value → H} {P : Program} {w w' : World} {base : Nat} {held : Bool}
theorem cells_later (hb : ∀ b,b < w.heap.size → w'.heap[b]? = w.heap[b]?) {a : Addr} {n : Nat} {cs : List Value} (h : w.cells? base a n = some cs) : w'.cells? base a n = some cs:=by
 unfold World.cells? at h ⊢
 split at h
 · rename_i h1
   rw [if_pos h1]
   refine mapM_later (fun i _ v hv => ?_) h
   rw [World.cell?_of_block (w:=w) (hb _ (cell_lt hv))];exact hv
 · cases h
theorem cells_lt {a : Addr} {n : Nat} {cs : List Value} (h : w.cells? base a n = some cs) (hn : 0 < n) : a.block < w.heap.size:=by
 unfold World.cells? at h
 split at h
 · obtain ⟨m,rfl⟩ : ∃ m,n = m + 1:=⟨n - 1,by omega⟩
   rw [List.range_succ_eq_map,List.mapM_cons] at h
   cases hv : w.cell? (a.add 0) with
   | none => simp [hv] at h
   | some v => have:=cell_lt hv;rwa [block_add] at this
 · cases h
theorem bind_map {α β γ : Type} {o : Option α} {g : α → Option β} {f : β → γ} {x : γ} (h : (o.bind g).map f = some x) : ∃ c y,o = some c ∧ g c = some y ∧ f y = x:=by
 cases o with
 | none => simp at h
 | some c =>
   cases hg : g c with
   | none => simp [hg] at h
   | some y => exact ⟨c,y,rfl,hg,by simpa [hg] using h⟩
theorem map_some {β γ : Type} {o : Option β} {f : β → γ} {x : γ} (h : o.map f = some x) : ∃ y,o = some y ∧ f y = x:=by
 cases o with
 | none => simp at h
 | some y => exact ⟨y,rfl,by simpa using h⟩
def closedB (P : Program) (N : Nat) (t : TypeId) : Bool :=
 match P.underlying t with
 | some (.slice e) => decide (e < N) && decide (0 < P.cellsOf e)
 | some (.pointer e) => decide (e < N)
 | some (.struct fs) => fs.toList.all (fun f => decide (f.type < N))
 | some (.array _ e) => decide (e < N)
 | some (.map _ e) => decide (e < N)
 | _ => true
set_option maxHeartbeats 1000000 in
/-- What reads as a datum reads so in a later world. -/
theorem trod_later {N : Nat} (hz : (List.range N).all (closedB P N) = true) (hb : ∀ b,b < w.heap.size → w'.heap[b]? = w.heap[b]?) :
   ∀ (fuel : Nat) (t : TypeId) (cs : List Value) (x : DataW H × List MemPlace),t < N → DataW.trod enc P w base (fun _ => true) true fuel t cs = some x → DataW.trod enc P w' base (fun b => decide (b < w.heap.size)) true fuel t cs = some x:=by
 rw [List.all_eq_true] at hz
 intro fuel
 induction fuel with
 | zero => intro t cs x _ h;simp [DataW.trod] at h
 | succ fuel ih =>
   intro t cs x htN h
   have hcl:=hz t (by simpa using htN)
   unfold closedB at hcl
   unfold DataW.trod at h ⊢
   split at h
   all_goals (try exact h)
   · rename_i e a heq
     rw [heq] at hcl
     obtain ⟨c,y,hc,hy,rfl⟩:=bind_map h
     rw [cells_later hb hc]
     simp only [Option.bind_some]
     rw [ih _ _ _ (by simpa using hcl) hy];rfl
   · rename_i e a len cap heq
     rw [heq] at hcl
     simp only [Bool.and_eq_true,decide_eq_true_eq] at hcl
     have he:=hcl.2
     dsimp only at h ⊢
     by_cases hc : base ≤ a.block ∧ len ≤ cap ∧ cap ≤ maxLen
     · rw [if_pos hc] at h ⊢
       have hel : ∀ i y,(w.cells? base (a.add (i * P.cellsOf e)) (P.cellsOf e)).bind (DataW.trod enc P w base (fun _ => true) true fuel e) = some y → (w'.cells? base (a.add (i * P.cellsOf e)) (P.cellsOf e)).bind (DataW.trod enc P w' base (fun b => decide (b < w.heap.size)) true fuel e) = some y ∧ a.block < w.heap.size:=by
         intro i y hy
         cases hcs : w.cells? base (a.add (i * P.cellsOf e)) (P.cellsOf e) with
         | none => simp [hcs] at hy
         | some c =>
           rw [hcs] at hy
           rw [cells_later hb hcs]
           refine ⟨ih _ _ _ hcl.1 hy,?_⟩
           have:=cells_lt hcs he
           rwa [block_add] at this
       cases h1 : (List.range len).mapM (fun i => (w.cells? base (a.add (i * P.cellsOf e)) (P.cellsOf e)).bind (DataW.trod enc P w base (fun _ => true) true fuel e)) with
       | none => rw [h1] at h;simp at h
       | some elems =>
         rw [h1] at h
         rw [mapM_later (fun i _ y hy => (hel i y hy).1) h1]
         simp only [Option.bind_some,if_true] at h ⊢
         obtain ⟨rest,hr,rfl⟩:=map_some h
         have hr' : (if decide (a.block < w.heap.size) = true then (List.range (cap - len)).mapM (fun j => (w'.cells? base (a.add ((len + j) * P.cellsOf e)) (P.cellsOf e)).bind (DataW.trod enc P w' base (fun b => decide (b < w.heap.size)) true fuel e)) else some []) = some rest:=by
           by_cases hlt : a.block < w.heap.size
           · rw [if_pos (by simpa using hlt)]
             exact mapM_later (fun j _ y hy => (hel (len + j) y hy).1) hr
           · rw [if_neg (by simpa using hlt)]
             rcases Nat.eq_zero_or_pos (cap - len) with h0 | h0
             · rw [h0] at hr;simpa using hr
             · exfalso
               obtain ⟨m,hm⟩ : ∃ m,cap - len = m + 1:=⟨cap - len - 1,by omega⟩
               rw [hm,List.range_succ_eq_map,List.mapM_cons] at hr
               cases hv : (w.cells? base (a.add ((len + 0) * P.cellsOf e)) (P.cellsOf e)).bind (DataW.trod enc P w base (fun _ => true) true fuel e) with
               | none => simp only [hv] at hr;simp at hr
               | some y => exact hlt (hel (len + 0) y hv).2
         rw [hr'];rfl
     · rw [if_neg hc] at h;cases h
   · rename_i fs heq
     split at h
     · rename_i hc
       rw [if_pos hc]
       obtain ⟨ys,hy,rfl⟩:=map_some h
       rw [heq] at hcl
       rw [mapM_later (fun f hf y hy => ih _ _ _ (by have:=List.all_eq_true.1 hcl f hf;simpa using this) hy) hy];rfl
     · cases h
   · rename_i n e heq
     split at h
     · rename_i hc
       rw [if_pos hc]
       obtain ⟨ys,hy,rfl⟩:=map_some h
       rw [heq] at hcl
       rw [mapM_later (fun f _ y hy => ih _ _ _ (by simpa using hcl) hy) hy];rfl
     · cases h
   · rename_i k e b heq
     rw [heq] at hcl
     cases hm : w.heap[b]? with
     | none => simp [hm] at h
     | some o =>
       rw [hb b (by
         rcases Nat.lt_or_ge b w.heap.size with h1 | h1
         · exact h1
         · rw [Array.getElem?_eq_none h1] at hm;cases hm),hm]
       rw [hm] at h
       cases o with
       | map es clock =>
         dsimp only at h ⊢
         split at h
         · rename_i hc
           rw [if_pos hc]
           cases h1 : es.toList.mapM (fun x => (keyOf P k x.key).bind fun key => if x.val.formed P e then (DataW.trod enc P w base (fun _ => true) true fuel e x.val.cells.toList).map fun y => ((key,y.1),y.2) else none) with
           | none => rw [h1] at h;simp at h
           | some entries =>
             rw [h1] at h
             rw [mapM_later (fun x _ y hy => ?_) h1]
             · exact h
             · cases hk : keyOf P k x.key with
               | none => simp [hk] at hy
               | some key =>
                 rw [hk] at hy
                 simp only [Option.bind_some] at hy ⊢
                 split at hy
                 · rename_i hf
                   rw [if_pos hf]
                   obtain ⟨z,hz',rfl⟩:=map_some hy
                   rw [ih _ _ _ (by simpa using hcl) hz'];rfl
                 · cases hy
         · cases h
       | _ => simp at h
theorem trodAll_later {N : Nat} (hz : (List.range N).all (closedB P N) = true) (hb : ∀ b,b < w.heap.size → w'.heap[b]? = w.heap[b]?) :
   ∀ {ts : List TypeId} {vs : List Value} {ds : List (DataW H)} {ps : List MemPlace},(∀ t ∈ ts,t < N) → DataW.TrodAll enc P w base (fun _ => true) true ts vs ds ps → DataW.TrodAll enc P w' base (fun b => decide (b < w.heap.size)) true ts vs ds ps
 | [],[],[],_,_,h => h
 | _ :: _,_ :: _,_ :: _,_,ht,⟨p,q,⟨fuel,h1⟩,h2,h3⟩ => ⟨p,q,⟨fuel,trod_later hz hb fuel _ _ _ (ht _ (by simp)) h1⟩,trodAll_later hz hb (fun t h => ht t (by simp [h])) h2,h3⟩
theorem post_true {f : Func} {s : ChangeSpec} {fresh handsOn : Bool} {W W' : World} {args : Array Value} {ds gs : List (DataW H)} {before : List MemPlace} {tb : TypeId}
   {N : Nat} (hz : (List.range N).all (closedB P N) = true) (hpN : f.params.toList.all (fun t => decide (t < N)) = true) (htb : P.underlying tb = some .bool) (hrt : f.resultTypes = #[tb]) (hv : s.vars = [])
   (hs : s.fn H ds = { results:=[.lit (.bool true)],args:=ds })
   (hW : DataW.Whole enc P f.params.toList s.vars false W args.toList ds gs before) (hb : Below W.heap.size W W') : s.post enc P f false fresh handsOn false W args (.bool true) W':=by
 have hW':=hW
 obtain ⟨p,q,hA,hV,hp,_,_⟩:=hW
 rw [hv] at hV
 obtain ⟨rfl,rfl⟩:=trodVars_none hV
 refine ⟨ds,[],before,[],p,[],hW',?_,?_,?_,hb.frame _,fun h => by cases h⟩
 · rw [hrt,List.append_nil,hs]
   exact trodAll_mk1 (shut_bool htb true)
 · rw [List.append_nil,hs]
   exact trodAll_later hz (fun b hlt => hb.block b hlt) (fun t ht => by have:=List.all_eq_true.1 hpN t ht;simpa using this) hA
 · rw [hv,List.append_nil,hs]
   rfl
theorem open_SIn {t e : TypeId} {fuel : Nat} {v : Value} {x : DataW H × List MemPlace} (ht : P.underlying t = some (.slice e)) (he : P.underlying e = some (.int .i64)) (hC : P.cellsOf e = 1)
   (h : DataW.trod enc P w base (fun _ => true) held fuel t [v] = some x) : ∃ A n c xs,v = .slice A n c ∧ SIn w A n c xs ∧ Fit xs:=by
 rcases Go.Deep.open_slice ht h with ⟨h0,_⟩ | ⟨a,len,cap,m,n,D,Pl,hcs,hbb,hl,hm,hmm,hx,hi⟩
 · injection h0 with h0
   exact ⟨none,0,0,[],h0,SIn.nil w,fun x hx => by cases hx⟩
 · injection hcs with hcs
   subst hcs
   have hread : ∀ i,i < len → ∃ k : Int,w.cell? (a.add i) = some (.int .i64 k) ∧ -9223372036854775808 ≤ k ∧ k ≤ 9223372036854775807:=by
     intro i hil
     obtain ⟨cs',hc,ht'⟩:=hi i (by rw [hmm];simp;omega)
     rw [hC] at hc
     obtain ⟨k,hk,_,wk⟩:=DataW.trod_int he ht'
     subst hk
     have hbd:=bounds_i64 wk
     refine ⟨k,?_,by omega,by omega⟩
     unfold World.cells? at hc
     split at hc
     · have e1 : (a.add (i * 1)).add 0 = a.add i:=by simp [Addr.add]
       rw [show List.range 1 = [0] from rfl,List.mapM_cons,e1] at hc
       cases hv : w.cell? (a.add i) with
       | none => rw [hv] at hc;simp at hc
       | some u =>
         rw [hv] at hc
         simp at hc
         rw [hc]
     · cases hc
   have hex : ∃ f : Nat → Int,∀ i,i < len → w.cell? (a.add i) = some (.int .i64 (f i)) ∧ -9223372036854775808 ≤ f i ∧ f i ≤ 9223372036854775807 :=
     ⟨fun i => if hil : i < len then (hread i hil).choose else 0,fun i hil => by simp only [dif_pos hil];exact (hread i hil).choose_spec⟩
   obtain ⟨f,hf⟩:=hex
   refine ⟨some a,len,cap,(List.range len).map f,rfl,⟨⟨by simp,fun hp => ?_⟩,hl,by unfold maxLen at hm;omega,fun h => by cases h⟩,?_⟩
   · obtain ⟨b,o,sp⟩:=a
     have h0:=(hf 0 hp).1
     have hsp : sp = none:=by
       cases sp with
       | none => rfl
       | some s =>
         exfalso
         simp only [World.cell?,Addr.add] at h0
         split at h0 <;> simp at h0
     subst hsp
     refine ⟨b,o,rfl,cell_lt (p:=⟨b,o,none⟩) (by have h9:=h0;rw [add_lit] at h9;exact h9),fun i hil => ?_⟩
     rw [← add_lit,(hf i hil).1,gi_lt (by simpa using hil)]
     simp
   · intro x hx
     simp at hx
     obtain ⟨i,hil,rfl⟩:=hx
     exact (hf i hil).2
end
end Go.Df
namespace Go.Df
open Go.RowKit
def gw (l : List Nat) (i : Nat) : Nat:=l.getD i 0
def hasB (l : List Nat) (x : Nat) : Bool:=(gw l (x / 64)).testBit (x % 64)
def Bts (w : World) (A : Option Addr) (n : Nat) (l : List Nat) : Prop :=
 l.length = n ∧ (∀ i,gw l i < 18446744073709551616) ∧ (0 < n → ∃ b o,A = some ⟨b,o,none⟩ ∧ b < w.heap.size ∧ ∀ i,i < n → w.cell? ⟨b,o + i,none⟩ = some (.int .u64 (gw l i)))
def setB (l : List Nat) (n x : Nat) : List Nat:=(List.range n).map fun i => if i = x / 64 then gw l i ||| 2 ^ (x % 64) else gw l i
def elemsB (l : List Nat) (m : Nat) : List Nat:=(List.range m).filter (hasB l)
def unionB (a b : List Nat) (n : Nat) : List Nat:=(List.range n).map fun i => gw a i ||| gw b i
theorem bit_test (v j : Nat) (hv : v < 18446744073709551616) : (bits BinOp.and IntKind.u64 ((v : Int) / 2 ^ j) 1 == 1) = v.testBit j:=by
 have h1 : ((v : Int) / 2 ^ j) = ((v / 2 ^ j : Nat) : Int):=by simp
 have h2:=bits_and_u64_nat (v / 2 ^ j) 1 (Nat.lt_of_le_of_lt (Nat.div_le_self _ _) hv) (by omega)
 rw [h1]
 have h3 : (bits BinOp.and IntKind.u64 ((v / 2 ^ j : Nat) : Int) 1) = (((v / 2 ^ j) &&& 1 : Nat) : Int):=h2
 rw [h3,Nat.testBit_eq_decide_div_mod_eq,Nat.and_one_is_mod,Bool.eq_iff_iff]
 simp
 omega
theorem bit_or (v j : Nat) (hv : v < 18446744073709551616) (hj : j < 64) : bits BinOp.or IntKind.u64 (v : Int) (IntKind.u64.wrap (2 ^ j)) = ((v ||| 2 ^ j : Nat) : Int):=by
 have h1 : 2 ^ j < 2 ^ 64:=Nat.pow_lt_pow_right (by omega) hj
 have h2 : IntKind.u64.wrap (2 ^ j) = ((2 ^ j : Nat) : Int):=by
   have e : ((2 : Int) ^ j) = ((2 ^ j : Nat) : Int):=by simp
   rw [e]
   generalize 2 ^ j = m at h1
   exact IntWalk.u64_in _ (by omega)
 rw [h2]
 exact bits_or_u64_nat v (2 ^ j) hv (by omega)
end Go.Df
namespace Go.Proofs.YtincpmdldpakkaaGreatDoor
open Go.RowKit Go.Df
def zs49 : Array Value:=(List.replicate 1024 (Value.int .u64 0)).toArray
theorem zero49 (w : World) : (zeroValue 298).run Tryz.prog w = .ok (.agg zs49) w:=by kernel_rfl
def Wds (w : World) (g : Nat) (f : Nat → Nat) : Prop:=g < w.heap.size ∧ (∀ i,i < 1024 → w.cell? ⟨g,i,none⟩ = some (.int .u64 (f i))) ∧ ∀ i,w.frozen? ⟨g,i,none⟩ = false
theorem Wds.new (w : World) : Wds (w.alloc (.cells zs49 298)) w.heap.size (fun _ => 0):=by
 refine ⟨by simp,fun i hi => ?_,fun i => World.frozen?_alloc_new w zs49 298 i⟩
 rw [World.cell?_alloc_new]
 unfold zs49
 rw [List.getElem?_toArray,List.getElem?_replicate,if_pos hi];rfl
theorem Wds.later {w w1 : World} {g : Nat} {f : Nat → Nat} (h : Wds w g f) (hb : Below w.heap.size w w1) : Wds w1 g f :=
 ⟨Nat.lt_of_lt_of_le h.1 hb.size,fun i hi => (hb.cell (p:=⟨g,i,none⟩) h.1).trans (h.2.1 i hi),fun i => (hb.frozen (p:=⟨g,i,none⟩) h.1).trans (h.2.2 i)⟩
theorem Wds.set {w : World} {g : Nat} {f : Nat → Nat} (h : Wds w g f) (j v : Nat) : Wds (w.setCell ⟨g,j,none⟩ (.int .u64 v)) g (fun i => if i = j then v else f i):=by
 refine ⟨by simpa [World.setCell] using h.1,fun i hi => ?_,fun i => by simpa using h.2.2 i⟩
 dsimp only
 by_cases e : i = j
 · subst e;rw [if_pos rfl];exact set_same (h.2.1 i hi)
 · rw [if_neg e,set_other (.inr (fun h => e h.symm))];exact h.2.1 i hi
theorem check_rel {V w1 : World} {g n2 k x nq : Nat} {f : Nat → Nat} {r l : List Int} (hkn : k < n2) (Hl : l.length = n2) (hk1 : Kept [g] V w1) (hw1 : Wds w1 g f) (hbits : Wl.Bits f (l.take k)) (hx : gi l k = (x : Int))
   (herr : ∀ j,j < k → Wl.err r l j = 0) (he : Wl.err r l k = 0) :
   ∃ (k_1 : Nat) (f_1 : Nat → Nat),k_1 ≤ n2 ∧ Value.int .i64 ((k : Int) + 1) = .int .i64 (k_1 : Int) ∧
     Kept [g] V ((w1.drewN nq).setCell ⟨g,x / 64,none⟩ (.int .u64 (bits BinOp.or IntKind.u64 (f (x / 64) : Int) (IntKind.u64.wrap (2 ^ (x % 64)))))) ∧
     Wds ((w1.drewN nq).setCell ⟨g,x / 64,none⟩ (.int .u64 (bits BinOp.or IntKind.u64 (f (x / 64) : Int) (IntKind.u64.wrap (2 ^ (x % 64)))))) g f_1 ∧
     Hid (Wl.Bits f_1 (l.take k_1)) ∧ Hid (∀ j,j < k_1 → Wl.err r l j = 0):=by
 rw [bit_or _ _ (hbits.1 _) (Nat.mod_lt _ (by omega))]
 refine ⟨k + 1,fun i => if i = x / 64 then f (x / 64) ||| 2 ^ (x % 64) else f i,by omega,rfl,(hk1.drewN nq).set g _ _ (.inl (by simp)),(Wds.set (w:=w1.drewN nq) hw1 _ _),?_,?_⟩
 · have h1:=Wl.bits_set hbits x
   rw [← hx,← Wl.take_snoc (by omega)] at h1
   have e : (fun i => if i = x / 64 then f (x / 64) ||| 2 ^ (x % 64) else f i) = (fun i => if i = x / 64 then f i ||| 2 ^ (x % 64) else f i):=by
     funext i;split
     · subst_vars;rfl
     · rfl
   rw [e]
   exact h1
 · intro j hj
   rcases Nat.lt_or_ge j k with h2 | h2
   · exact herr j h2
   · obtain rfl : j = k:=by omega
     exact he
end Go.Proofs.YtincpmdldpakkaaGreatDoor
namespace Go.Proofs.YtincpmdldpakkaaGreatDoor
open Go.RowKit Go.Df
attribute [local go_sem ↓] Go.wp_at_zero Go.wp_at_succ
set_option maxHeartbeats 400000 in
theorem check_main (A1 A2 : Option Addr) (n1 c1 n2 c2 : Nat) (r l : List Int) (w : World) (hr : Ints w A1 n1 r) (hl : Ints w A2 n2 l) (s1 : n1 ≤ 8192) (s2 : n2 ≤ 8192) (hp : 0 < n2) :
   Calls Tryz.prog 181 #[.agg #[.slice A1 n1 c1,.slice A2 n2 c2]] w fun e w' => e = .returned (.int .i64 (Wl.chk r l)) ∧ Below w.heap.size w w':=by
 have hz49:=zero49
 have h1 : decide ((8192 : Int) < n1) = false:=by simp;omega
 have h2 : decide ((8192 : Int) < n2) = false:=by simp;omega
 have HR:=Lib.hid hr
 have HL:=Lib.hid hl
 have Hr:=Lib.hid hr.1
 have Hl:=Lib.hid hl.1
 obtain ⟨b,o,rfl,hlt,hc⟩:=hl.at_ hp
 have HC:=Lib.hid hc
 clear hr hl hc
 go_enter Tryz.func181,Tryz.ntmps181
 go_upto_region 1 with fail
 refine wp_named (fun W => ∃ b0,w.heap.size = b0 ∧ Blk W b0 [.slice A1 n1 c1,.slice (some ⟨b,o,none⟩) n2 c2] ∧ Below w.heap.size w W) ⟨_,rfl,?_,?_⟩ ?_
 · exact kbn
 · go_grown
 rintro W ⟨b0,e0,B0,hB⟩
 rw [e0]
 have G0 : w.heap.size ≤ b0:=by omega
 clear e0
 have ⟨L0,C0,F0⟩:=B0
 go_upto_region 4 with fail
 refine wp_named (fun V => ∃ g,W.heap.size = g ∧ Wds V g (fun _ => 0) ∧ Kept [] W V) ⟨_,rfl,Wds.new W,(Kept.refl _ _).alloc _⟩ ?_
 rintro V ⟨g,eg,hwd,hkV⟩
 rw [eg]
 have Lg : b0 < g:=by omega
 have hbg : b ≠ g:=by have:=hB.size;omega
 have n0g : b0 ≠ g:=by omega
 have hBV:=hkV.below hB hB.size (by simp)
 have BV:=hkV.blk (by simp) B0
 have hlt' : b < V.heap.size:=by have:=hBV.size;omega
 have hcV : Hid (∀ i,i < n2 → V.cell? ⟨b,o + i,none⟩ = some (.int .i64 (gi l i))):=fun i hi => (hBV.cell (p:=⟨b,o + i,none⟩) hlt).trans (HC.out i hi)
 have hg0 : w.heap.size ≤ g:=by have:=hB.size;omega
 clear hkV hB B0 C0 F0 L0 G0 eg HC hlt
 have ⟨L0,C0,F0⟩:=BV
 go_wp2_with fail
 go_loopw [19] (fun i wr => ∃ (k : Nat) (f : Nat → Nat),k ≤ n2 ∧ i = .int .i64 k ∧ Kept [g] V wr ∧ Wds wr g f ∧ Hid (Wl.Bits f (l.take k)) ∧ Hid (∀ j,j < k → Wl.err r l j = 0)) (fun i _ => n2 - (intOf i).toNat)
 case atStart => exact ⟨0,_,Nat.zero_le _,rfl,Kept.refl _ _,hwd,Lib.hid Wl.bits_zero,Lib.hid (fun j hj => absurd hj (by omega))⟩
 case round =>
   obtain ⟨k,f,hk,rfl,hkw,hw,hbits,herr⟩:=hrel
   clear hwd
   have ⟨Lw,Cw,Fw⟩:=hkw.blk (by simpa using n0g) BV
   by_cases hkn : k < n2
   · have hcell : wr.cell? ⟨b,o + k,none⟩ = some (.int .i64 (gi l k)):=(hkw.cell b (o + k) hlt' (by simpa using hbg)).trans (hcV.out k hkn)
     by_cases hal : Wl.allowed n1 (gi l k) = false
     · go_wp2_with (go_at_call 198;refine (allowed_any _ _ _ _ _ _ _ _).mono ?_;rintro e w1 ⟨rfl,hb1⟩)
       go_ret
       refine ⟨ret_int ?_,(hkw.call hb1).below hBV hBV.size (by simpa using hg0)⟩
       have he : Wl.err r l k = 4:=by simp [Wl.err,Hr.out,hal]
       exact (Wl.chk_hit (by rw [Hr.out];exact s1) (by rw [Hl.out];exact s2) herr.out (by rw [Hl.out];exact hkn) he (by omega)).symm
     · have hal : Wl.allowed n1 (gi l k) = true:=by simpa using hal
       obtain ⟨x0,x1,x2⟩:=Wl.allowed_lt hal s1
       obtain ⟨x,hx⟩:=Int.eq_ofNat_of_zero_le x0
       rw [hx] at hcell hal x1 x2
       have HX:=Lib.hid hx
       clear hx x0
       have hq : x / 64 < 1024:=by omega
       have hv:=hbits.out.1 (x / 64)
       have hbt:=bit_test (f (x / 64)) (x % 64) hv
       by_cases hin : (f (x / 64)).testBit (x % 64) = true
       · rw [hin] at hbt
         go_wp2_with (go_at_call 198;refine (allowed_any _ _ _ _ _ _ _ _).mono ?_;rintro e w1 ⟨rfl,hb1⟩;have hw1:=hw.later hb1;have hcg:=hw1.2.1 _ hq)
         go_ret
         refine ⟨ret_int ?_,(hkw.call hb1).below hBV hBV.size (by simpa using hg0)⟩
         have hm:=(hbits.out.2 x (by omega)).1 hin
         have he : Wl.err r l k = 7:=by
           unfold Wl.err
           rw [HX.out,Hr.out,hal]
           simp [hm]
         exact (Wl.chk_hit (by rw [Hr.out];exact s1) (by rw [Hl.out];exact s2) herr.out (by rw [Hl.out];exact hkn) he (by omega)).symm
       · rw [Bool.not_eq_true] at hin
         rw [hin] at hbt
         have hni : ¬ (gi l k ∈ l.take k):=by
           rw [HX.out];intro hm;have:=(hbits.out.2 x (by omega)).2 hm;rw [hin] at this;cases this
         have HNI:=Lib.hid hni
         clear hni
         by_cases hz : n1 = 0
         · have z1 : decide (0 < n1) = false:=by simp;omega
           have z2 : decide ((0 : Int) < (n1 : Int)) = false:=by simp;omega
           have he : Hid (Wl.err r l k = 0):=by
             show Wl.err r l k = 0
             unfold Wl.err
             rw [HX.out,Hr.out,hal,← HX.out]
             simp [HNI.out,hz]
           have HZ:=Lib.hid hz
           clear hz
           go_wp2_with (go_at_call 198;refine (allowed_any _ _ _ _ _ _ _ _).mono ?_;rintro e w1 ⟨rfl,hb1⟩;have hw1:=hw.later hb1;have hcg:=hw1.2.1 _ hq;have hk1 : Kept [g] V w1:=hkw.call hb1;have ⟨Lw1,Cw1,Fw1⟩:=hk1.blk (by simpa using n0g) BV;have hfg:=hw1.2.2 (x / 64))
           go_quiet (fail)
           go_wp2_with fail
           exact ⟨check_rel hkn Hl.out hk1 hw1 hbits.out HX.out herr.out he.out,by simp [intOf];omega⟩
         · have z1 : decide (0 < n1) = true:=by simp;omega
           have z2 : decide ((0 : Int) < (n1 : Int)) = true:=by simp;omega
           have z3 : 0 < n1:=by omega
           by_cases hk0 : k = 0
           · have he : Hid (Wl.err r l k = 0) := by
               show Wl.err r l k = 0
               unfold Wl.err
               rw [HX.out,Hr.out,hal,← HX.out]
               simp [hk0]
             have y1 : decide (0 < k) = false:=by simp;omega
             have y2 : decide ((0 : Int) < (k : Int)) = false:=by simp;omega
             have HK0:=Lib.hid hk0
             clear hk0
             go_wp2_with (go_at_call 198;refine (allowed_any _ _ _ _ _ _ _ _).mono ?_;rintro e w1 ⟨rfl,hb1⟩;have hw1:=hw.later hb1;have hcg:=hw1.2.1 _ hq;have hk1 : Kept [g] V w1:=hkw.call hb1;have ⟨Lw1,Cw1,Fw1⟩:=hk1.blk (by simpa using n0g) BV;have hfg:=hw1.2.2 (x / 64))
             go_quiet (fail)
             go_wp2_with fail
             exact ⟨check_rel hkn Hl.out hk1 hw1 hbits.out HX.out herr.out he.out,by simp [intOf];omega⟩
           · have y1 : decide (0 < k) = true:=by simp;omega
             have y2 : decide ((0 : Int) < (k : Int)) = true:=by simp;omega
             have y3 : 0 < k:=by omega
             have hprev:=herr.out (k - 1) (by omega)
             have hal2 : Wl.allowed n1 (gi l (k - 1)) = true:=by
               unfold Wl.err at hprev
               rw [Hr.out] at hprev
               by_cases h5 : Wl.allowed n1 (gi l (k - 1)) = false
               · rw [if_pos h5] at hprev;cases hprev
               · simpa using h5
             obtain ⟨p0,p1,p2⟩:=Wl.allowed_lt hal2 s1
             obtain ⟨y,hy⟩:=Int.eq_ofNat_of_zero_le p0
             have HY:=Lib.hid hy
             rw [hy] at p2
             have p3:=p2 z3
             have x3:=x2 z3
             have hcellp : ∀ wx,Kept [g] V wx → wx.cell? ⟨b,o + (k - 1),none⟩ = some (.int .i64 (y : Int)):=fun wx hh => by
               rw [← HY.out];exact (hh.cell b (o + (k - 1)) hlt' (by simpa using hbg)).trans (hcV.out (k - 1) (by omega))
             have HP:=Lib.hid hcellp
             clear hcellp hprev hal2 p0 p1 p2 hy x2 hk0 hz
             by_cases hbf : Wl.before r (x : Int) (y : Int) = true
             · go_wp2_with (go_at_call 198;refine (allowed_any _ _ _ _ _ _ _ _).mono ?_;rintro e w1 ⟨rfl,hb1⟩;have hw1:=hw.later hb1;have hcg:=hw1.2.1 _ hq;have hk1 : Kept [g] V w1:=hkw.call hb1;have ⟨Lw1,Cw1,Fw1⟩:=hk1.blk (by simpa using n0g) BV;have hfg:=hw1.2.2 (x / 64);have hcp:=HP.out _ hk1;have hrq : Hid (Ints w1 A1 n1 r):=Lib.hid (HR.out.later (hk1.below hBV hBV.size (by simpa using hg0))))
               go_quiet ((go_at_call 200;exact Calls.quiet_of (before_q _ _ _ r _ _ _ (show Ints (World.drewN w1 _) A1 n1 r from hrq.out) (by omega) (by omega) (by omega) (by omega))))
               go_wp2_with fail
               go_ret
               refine ⟨ret_int ?_,(hk1.drewN _).below hBV hBV.size (by simpa using hg0)⟩
               have he : Wl.err r l k = 13:=by
                 unfold Wl.err
                 rw [HX.out,Hr.out,hal,← HX.out]
                 simp [HNI.out]
                 rw [HX.out,HY.out]
                 exact ⟨z3,y3,hbf⟩
               exact (Wl.chk_hit (by rw [Hr.out];exact s1) (by rw [Hl.out];exact s2) herr.out (by rw [Hl.out];exact hkn) he (by omega)).symm
             · rw [Bool.not_eq_true] at hbf
               have he : Hid (Wl.err r l k = 0):=by
                 show Wl.err r l k = 0
                 unfold Wl.err
                 rw [HX.out,Hr.out,hal,← HX.out]
                 simp [HNI.out]
                 rw [HX.out,HY.out]
                 intro _ _
                 exact hbf
               go_wp2_with (go_at_call 198;refine (allowed_any _ _ _ _ _ _ _ _).mono ?_;rintro e w1 ⟨rfl,hb1⟩;have hw1:=hw.later hb1;have hcg:=hw1.2.1 _ hq;have hk1 : Kept [g] V w1:=hkw.call hb1;have ⟨Lw1,Cw1,Fw1⟩:=hk1.blk (by simpa using n0g) BV;have hfg:=hw1.2.2 (x / 64);have hcp:=HP.out _ hk1;have hrq : Hid (Ints w1 A1 n1 r):=Lib.hid (HR.out.later (hk1.below hBV hBV.size (by simpa using hg0))))
               go_quiet ((go_at_call 200;exact Calls.quiet_of (before_q _ _ _ r _ _ _ (show Ints (World.drewN w1 _) A1 n1 r from hrq.out) (by omega) (by omega) (by omega) (by omega))))
               go_wp2_with fail
               exact ⟨check_rel hkn Hl.out hk1 hw1 hbits.out HX.out herr.out he.out,by simp [intOf];omega⟩
   · go_wp2
     go_ret
     refine ⟨ret_int ?_,hkw.below hBV hBV.size (by simpa using hg0)⟩
     exact (Wl.chk_ok (by rw [Hr.out];exact s1) (by rw [Hl.out];exact s2) (fun j hj => herr.out j (by rw [Hl.out] at hj;omega))).symm
set_option maxHeartbeats 400000 in
theorem wlck_any (A1 A2 : Option Addr) (n1 c1 n2 c2 : Nat) (r l : List Int) (w : World) (hr : Ints w A1 n1 r) (hl : Ints w A2 n2 l) :
   Calls Tryz.prog 181 #[.agg #[.slice A1 n1 c1,.slice A2 n2 c2]] w fun e w' => e = .returned (.int .i64 (Wl.chk r l)) ∧ Below w.heap.size w w':=by
 by_cases t1 : 8192 < n1
 · have e1 : Hid (Wl.chk r l = 3) := by
     show Wl.chk r l = 3
     rw [Wl.chk,if_pos (by have:=hr.1;omega)]
   have h1 : decide ((8192 : Int) < n1) = true:=by simp;omega
   clear hr hl
   go_enter Tryz.func181,Tryz.ntmps181
   go_wp2
   go_ret
   exact ⟨ret_int e1.out.symm,by go_grown⟩
 · by_cases t2 : 8192 < n2
   · have e1 : Hid (Wl.chk r l = 3) := by
       show Wl.chk r l = 3
       rw [Wl.chk,if_pos (by have:=hl.1;omega)]
     have h1 : decide ((8192 : Int) < n1) = false:=by simp;omega
     have h2 : decide ((8192 : Int) < n2) = true:=by simp;omega
     clear hr hl
     go_enter Tryz.func181,Tryz.ntmps181
     go_wp2
     go_ret
     exact ⟨ret_int e1.out.symm,by go_grown⟩
   · rcases Nat.eq_zero_or_pos n2 with rfl | hp
     · have hz49:=zero49
       have e1 : Hid (Wl.chk r l = 0):=by
         show Wl.chk r l = 0
         have : l = []:=List.eq_nil_of_length_eq_zero hl.1
         subst this
         rw [Wl.chk,if_neg (by have:=hr.1;simp;omega)];rfl
       have h1 : decide ((8192 : Int) < n1) = false:=by simp;omega
       clear hr hl
       go_enter Tryz.func181,Tryz.ntmps181
       go_wp2
       refine wp_loop_rounds 1 ?_
       rw [rounds_succ]
       go_wp2
       go_ret
       exact ⟨ret_int e1.out.symm,by go_grown⟩
     · exact check_main A1 A2 n1 c1 n2 c2 r l w hr hl (by omega) (by omega) hp
def GetQE (w : World) (r l : List Int) (x : Int) (e : Ending) (w' : World) : Prop :=
 ∃ A1 n1 c1 A2 n2 c2,e = .returned (.tuple #[.agg #[.slice A1 n1 c1,.slice A2 n2 c2],.int .i64 x]) ∧ SIn w' A1 n1 c1 r ∧ SIn w' A2 n2 c2 l ∧ Below w.heap.size w w' ∧ Fr w w' A1 ∧ Fr w w' A2
set_option maxHeartbeats 400000 in
theorem new_ok (A : Option Addr) (n c : Nat) (r : List Int) (w : World) (hr : Ints w A n r) (hn : n ≤ 8192) (hA : A = none → n = 0) :
   Calls Tryz.prog 132 #[.slice A n c] w (GetQE w r [] 0):=by
 have h1 : decide ((8192 : Int) < n) = false:=by simp;omega
 have HR:=Lib.hid hr
 have HA:=Lib.hid hA
 clear hr hA
 go_enter Tryz.func132,Tryz.ntmps132
 go_upto_region 1 with fail
 refine wp_named (fun W => ∃ b0,w.heap.size = b0 ∧ Blk W b0 [.slice none 0 0,.slice none 0 0] ∧ Below w.heap.size w W) ⟨_,rfl,?_,?_⟩ ?_
 · exact kbn
 · go_grown
 rintro W ⟨b0,e0,B0,hB⟩
 rw [e0]
 have G0 : w.heap.size ≤ b0:=by omega
 clear e0
 have ⟨L0,C0,F0⟩:=B0
 go_wp2_with fail
 refine (clone_any _ _ _ r _ (HR.out.later hB) (by omega) HA.out).mono ?_
 rintro e w1 ⟨v,rfl,hown,hb1⟩
 obtain ⟨A',c',hv,hi,hge⟩:=SIn.of_own hown
 have hk1 : Kept [] W w1:=Kept.call (Kept.refl _ _) hb1
 have ⟨hc1,hf1,hg1⟩:=hk1.rules
 have ⟨L1,C1,F1⟩:=hk1.blk (by simp) B0
 clear hown
 subst hv
 go_wp2_with fail
 refine bodyPost_ret (by simp [results,Tryz.results132,go_sem, *];rfl) rfl ?_
 have hkf:=((Kept.refl [b0] w1).set b0 0 (.slice A' n c') (.inl (by simp))).set b0 1 (.slice none 0 0) (.inl (by simp))
 refine ⟨_,_,_,_,_,_,rfl,hi.keptX hkf (fun _ a ha => ?_),SIn.nil _,?_,fun a ha => ?_,Fr.none _ _⟩
 · have:=hge a ha
   simp;omega
 · exact hkf.below (hk1.below hB hB.size (by simp)) (Nat.le_trans hB.size hk1.size) (by simpa using G0)
 · have t1:=hge a ha;have t2:=hB.size;have t3:=hkf.size;omega
def GetPop (w : World) (x : Int) (r l : List Int) (ok : Bool) (e : Ending) (w' : World) : Prop :=
 ∃ A1 n1 c1 A2 n2 c2,e = .returned (.tuple #[.int .i64 x,.agg #[.slice A1 n1 c1,.slice A2 n2 c2],.bool ok]) ∧ SIn w' A1 n1 c1 r ∧ SIn w' A2 n2 c2 l ∧ Below w.heap.size w w' ∧ Fr w w' A1 ∧ Fr w w' A2
set_option maxHeartbeats 400000 in
theorem pop_no (A1 A2 : Option Addr) (n1 c1 n2 c2 : Nat) (r l : List Int) (w : World) (hr : Ints w A1 n1 r) (hl : Ints w A2 n2 l) (h : Wl.chk r l ≠ 0 ∨ n2 = 0) :
   Calls Tryz.prog 137 #[.agg #[.slice A1 n1 c1,.slice A2 n2 c2]] w (GetPop w 0 [] [] false):=by
 have HR:=Lib.hid hr
 have HL:=Lib.hid hl
 clear hr hl
 go_enter Tryz.func137,Tryz.ntmps137
 go_upto_region 1 with fail
 refine wp_named (fun W => ∃ b0 b1,w.heap.size = b0 ∧ w.heap.size + 1 = b1 ∧ Blk W b0 [.slice A1 n1 c1,.slice A2 n2 c2] ∧ Blk W b1 [.slice none 0 0,.slice none 0 0] ∧ Below w.heap.size w W) ⟨_,_,rfl,rfl,?_,?_,?_⟩ ?_
 · exact (Blk.new _ _ _ _ (by first | rfl | simp)).alloc _
 · exact kbn
 · go_grown
 rintro W ⟨b0,b1,e0,e1,B0,B1,hB⟩
 rw [e1,e0]
 have G0 : w.heap.size ≤ b0:=by omega
 have n01 : b0 ≠ b1:=by omega
 have G1 : w.heap.size ≤ b1:=by omega
 have n10 : b1 ≠ b0:=by omega
 clear e0 e1
 have ⟨L0,C0,F0⟩:=B0
 have ⟨L1,C1,F1⟩:=B1
 go_wp2_with fail
 refine (wlck_any _ _ _ _ _ _ r l _ (HR.out.later hB) (HL.out.later hB)).mono ?_
 rintro e w1 ⟨rfl,hb1⟩
 have hk1 : Kept [] W w1:=Kept.call (Kept.refl _ _) hb1
 have ⟨hc1,hf1,hg1⟩:=hk1.rules
 by_cases hz : Wl.chk r l = 0
 · obtain rfl : n2 = 0:=h.resolve_left (fun h => h hz)
   rw [hz]
   clear hz h
   go_wp2_with fail
   refine bodyPost_ret (by simp [results,Tryz.results137,go_sem, *];rfl) rfl ?_
   have hkf:=((Kept.refl [b1] w1).set b1 0 (.slice none 0 0) (.inl (by simp))).set b1 1 (.slice none 0 0) (.inl (by simp))
   refine ⟨_,_,_,_,_,_,rfl,SIn.nil _,SIn.nil _,?_,Fr.none _ _,Fr.none _ _⟩
   exact hkf.below (hk1.below hB hB.size (by simp)) (Nat.le_trans hB.size hk1.size) (by simpa using G1)
 · have hz' : (Wl.chk r l != 0) = true:=by simpa using hz
   clear h
   go_wp2_with fail
   refine bodyPost_ret (by simp [results,Tryz.results137,go_sem, *];rfl) rfl ?_
   have hkf:=((Kept.refl [b1] w1).set b1 0 (.slice none 0 0) (.inl (by simp))).set b1 1 (.slice none 0 0) (.inl (by simp))
   refine ⟨_,_,_,_,_,_,rfl,SIn.nil _,SIn.nil _,?_,Fr.none _ _,Fr.none _ _⟩
   exact hkf.below (hk1.below hB hB.size (by simp)) (Nat.le_trans hB.size hk1.size) (by simpa using G1)
end Go.Proofs.YtincpmdldpakkaaGreatDoor
