/- Texts: Mc Oj Ehz Ec Ed. -/
import Derived.Test.YtincpmdldpakkaaGreatDoorMt06
import Derived.Test.YtincpmdldpakkaaGreatDoorMt05
import Derived.Test.YtincpmdldpakkaaGreatDoorMt03
namespace Go.Df
open Go.RowKit Go.Maps Go.ChangeMaps
def tokElem (v : Value) : Option (DataW Value × List MemPlace):=some (.held v,[])
def Reads (P : Program) (k : TypeId) (z : Value) (D : DataW Value) (f : Value → Value) : Prop :=
 ∀ key kl,keyOf P k key = some kl → D.atKey kl (.held z) = .held (f key) ∧ ((∀ zd,D.atKey kl zd = .held (f key)) → f key ≠ z)
def MapT (P : Program) (k : TypeId) (z : Value) (w : World) (b n : Nat) (f : Value → Value) : Prop :=
 ∃ D : DataW Value,w.ownsMap P k tokElem b n D ∧ Reads P k z D f
theorem Reads.two {P : Program} {k : TypeId} {z : Value} {D : DataW Value} {f g : Value → Value} (h : Reads P k z D f) (hg : ∀ key,f key = g key) : Reads P k z D g:=by
 have e : f = g:=funext hg
 subst e
 exact h
theorem MapT.made (P : Program) (k : TypeId) (z : Value) (w : World) (b : Nat) (hb : b = w.heap.size) : MapT P k z (w.alloc (.map #[] 0)) b 0 (fun _ => z):=by
 subst hb
 refine ⟨_,World.ownsMap_made w P k _,fun _ _ _ => ⟨rfl,fun h => ?_⟩⟩
 have h9:=h (.lit (.bool true))
 cases h9
theorem MapT.mono {P : Program} {k : TypeId} {z : Value} {w : World} {b n n' : Nat} {f : Value → Value} (h : MapT P k z w b n f) (hn : n ≤ n') : MapT P k z w b n' f :=
 let ⟨D,h1,h2⟩:=h;⟨D,h1.mono hn,h2⟩
theorem MapT.lt {P : Program} {k : TypeId} {z : Value} {w : World} {b n : Nat} {f : Value → Value} (h : MapT P k z w b n f) : b < w.heap.size :=
 let ⟨_,h1,_⟩:=h;h1.lt
theorem MapT.obj {P : Program} {k : TypeId} {z : Value} {w : World} {b n : Nat} {f : Value → Value} (h : MapT P k z w b n f) : ∃ es clock,w.heap[b]? = some (.map es clock) :=
 let ⟨_,⟨es,clock,h1,_⟩,_⟩:=h;⟨es,clock,h1⟩
theorem MapT.ext {P : Program} {k : TypeId} {z : Value} {w : World} {b n : Nat} {f g : Value → Value} (h : MapT P k z w b n f) (hg : ∀ key,f key = g key) : MapT P k z w b n g :=
 let ⟨D,h1,h2⟩:=h;⟨D,h1,h2.two hg⟩
theorem MapT.same {P : Program} {k : TypeId} {z : Value} {w w' : World} {b n : Nat} {f : Value → Value} (h : MapT P k z w b n f) (hk : w'.heap[b]? = w.heap[b]?) : MapT P k z w' b n f:=by
 obtain ⟨D,⟨es,clock,h1,h2⟩,h3⟩:=h
 exact ⟨D,⟨es,clock,hk.trans h1,h2⟩,h3⟩
theorem MapT.kept {P : Program} {k : TypeId} {z : Value} {w w' : World} {b n : Nat} {f : Value → Value} {X : List Nat} (h : MapT P k z w b n f) (hk : Kept X w w') (hX : b ∉ X) : MapT P k z w' b n f :=
 h.same (hk.block b h.lt hX)
theorem MapT.look {P : Program} {k e t : TypeId} {z : Value} {w : World} {b n : Nat} {f : Value → Value} (h : MapT P k z w b n f) (K : Keyed P k) (ht : P.underlying t = some (.map k e)) (hz : (zeroValue e).run P w = .ok z w)
   {key : Value} {kl : Lit} (hkey : keyOf P k key = some kl) : (Instr.lookup t (.map (some b)) key false).run P w = .ok (f key) w:=by
 obtain ⟨D,h1,h2⟩:=h
 obtain ⟨v,ps,hrun,hv⟩:=h1.lookup K ht hz (zd:=.held z) (zp:=[]) rfl hkey
 rw [(h2 key kl hkey).1] at hv
 unfold tokElem at hv
 injection hv with hv
 injection hv with hv _
 injection hv with hv
 rw [hrun,hv]
theorem MapT.store {P : Program} {k e t : TypeId} {z : Value} {w : World} {b n : Nat} {f : Value → Value} (h : MapT P k z w b n f) (K : Keyed P k) (ht : P.underlying t = some (.map k e)) (hn : n < maxLen)
   {key val : Value} {kl : Lit} (hkey : keyOf P k key = some kl) (g : Value → Value) (g1 : g key = val) (g2 : ∀ x,x ≠ key → g x = f x) (hz : val ≠ z) :
   ∃ w',(Instr.mapUpdate t (.map (some b)) key val).run P w = .ok () w' ∧ MapT P k z w' b (n + 1) g ∧ Kept [b] w w':=by
 obtain ⟨D,h1,h2⟩:=h
 have hm:=h1.isMap
 obtain ⟨w',hrun,h3,hg⟩:=h1.update K ht hn hkey (d:=.held val) (ps:=[]) rfl
 refine ⟨w',hrun,⟨_,h3,fun key' kl' hk' => ?_⟩,⟨hg.1,hg.2,hg.3,hg.4,fun j hj hx => hg.5 j hj (by simp at hx;intro hh;exact hx (by simpa using hh))⟩⟩
 by_cases hkk : key' = key
 · subst hkk
   obtain rfl : kl' = kl:=by rw [hkey] at hk';exact (Option.some.inj hk').symm
   exact ⟨by rw [atKey_put_same hm (K.key hkey),g1],fun _ => by rw [g1];exact hz⟩
 · have hne : kl' ≠ kl:=fun hh => hkk (K.inj (by rw [← hh];exact hk') hkey)
   refine ⟨by rw [atKey_put_other hne,g2 _ hkk];exact (h2 key' kl' hk').1,fun h => ?_⟩
   rw [g2 _ hkk] at h ⊢
   exact (h2 key' kl' hk').2 (fun zd => by rw [← h zd,atKey_put_other hne])
theorem keptWide {X Y : List Nat} {w w' : World} (h : Kept X w w') (hx : ∀ x ∈ X,x ∈ Y) : Kept Y w w':=⟨h.os,h.tape,h.output,h.size,fun k hk hn => h.block k hk (fun hm => hn (hx k hm))⟩
def Tag (w : World) (b : Nat) (t : TypeId) : Prop:=∃ cur,w.heap[b]? = some (.cells cur t (0,0))
theorem Tag.lt {w : World} {b : Nat} {t : TypeId} (h : Tag w b t) : b < w.heap.size:=by
 obtain ⟨cur,h⟩:=h
 exact (Array.getElem?_eq_some_iff.1 h).1
theorem Tag.same {w w' : World} {b : Nat} {t : TypeId} (h : Tag w b t) (hk : w'.heap[b]? = w.heap[b]?) : Tag w' b t:=let ⟨cur,h⟩:=h;⟨cur,hk.trans h⟩
theorem Tag.frozen {w : World} {b : Nat} {t : TypeId} (h : Tag w b t) (i : Nat) : w.frozen? ⟨b,i,none⟩ = false:=by
 obtain ⟨cur,h⟩:=h
 simp [World.frozen?,h]
theorem Tag.set {w : World} {b : Nat} {t : TypeId} (h : Tag w b t) (x i : Nat) (v : Value) : Tag (w.setCell ⟨x,i,none⟩ v) b t:=by
 obtain ⟨cur,h⟩:=h
 by_cases e : b = x
 · subst e
   unfold Tag World.setCell
   simp only [Array.getElem?_modify]
   simp [h]
 · exact ⟨cur,(RowKit.Below.heap_setCell _ _ _ _ e).trans h⟩
theorem Tag.ne_map {w : World} {b x : Nat} {t : TypeId} (h : Tag w b t) (hx : ∃ es clock,w.heap[x]? = some (.map es clock)) : b ≠ x:=by
 rintro rfl
 obtain ⟨cur,h⟩:=h
 obtain ⟨es,clock,hx⟩:=hx
 rw [h] at hx
 cases hx
theorem Tag.ne {w : World} {b x : Nat} {t u : TypeId} (h : Tag w b t) (hx : Tag w x u) (hn : t ≠ u) : b ≠ x:=by
 rintro rfl
 obtain ⟨cur,h⟩:=h
 obtain ⟨cur',hx⟩:=hx
 rw [h] at hx
 injection hx with hx
 injection hx with _ hx _
 exact hn hx
theorem own_tag {w : World} {base : Nat} {e : TypeId} {size : Nat} {v : Value} {n : Nat} {xs : List Value} (h : w.ownsRow base e size v n xs) {g : Nat} (hg : v.ownBlock = some g) : Tag w g e:=by
 rcases h.2 with ⟨rfl,_⟩ | ⟨g',cap,cur,rfl,_,h1,_⟩
 · cases hg
 · injection hg with hg
   subst hg
   exact ⟨cur,h1⟩
structure Kb (TS : List TypeId) (base : Nat) (w w' : World) : Prop where
 os : w'.os = w.os
 tape : w'.tape = w.tape
 output : w'.output = w.output
 size : w.heap.size ≤ w'.heap.size
 low : ∀ k,k < w.heap.size → k < base → w'.heap[k]? = w.heap[k]?
 tag : ∀ k t,Tag w k t → t ∉ TS → w'.heap[k]? = w.heap[k]?
structure Tb (P : Program) (k tM : TypeId) (z : Value) (w : World) (r N : Nat) (m : Nat → Option Nat) (c : Nat → Nat) (v : Nat → Value → Value) : Prop where
 row : ∃ cur,w.heap[r]? = some (.cells cur tM (0,0)) ∧ cur.size = N ∧ ∀ n,n < N → cur[n]? = some (.map (m n))
 is : ∀ n b,n < N → m n = some b → MapT P k z w b (c n) (v n)
 no : ∀ n,n < N → m n = none → ∀ a,v n a = z
 inj : ∀ n n' b,n < N → n' < N → m n = some b → m n' = some b → n = n'
variable {P : Program} {k tM : TypeId} {z : Value} {w : World} {r N : Nat} {m : Nat → Option Nat} {c : Nat → Nat} {v : Nat → Value → Value}
theorem Tb.rtag (h : Tb P k tM z w r N m c v) : Tag w r tM:=let ⟨cur,h1,_⟩:=h.row;⟨cur,h1⟩
theorem Tb.cell (h : Tb P k tM z w r N m c v) {n : Nat} (hn : n < N) : w.cell? ⟨r,n,none⟩ = some (.map (m n)):=by
 obtain ⟨cur,h1,_,h3⟩:=h.row
 simp [World.cell?,h1,h3 n hn]
theorem Tb.kept {X : List Nat} {w' : World} (h : Tb P k tM z w r N m c v) (hk : Kept X w w') (hr : r ∉ X) (hm : ∀ n b,n < N → m n = some b → b ∉ X) : Tb P k tM z w' r N m c v:=by
 obtain ⟨cur,h1,h2,h3⟩:=h.row
 exact ⟨⟨cur,(hk.block r h.rtag.lt hr).trans h1,h2,h3⟩,fun n b hn hb => (h.is n b hn hb).kept hk (hm n b hn hb),h.no,h.inj⟩
open Classical in
noncomputable def updV (v : Nat → Value → Value) (n : Nat) (key x : Value) : Nat → Value → Value:=fun n' key' => if n' = n ∧ key' = key then x else v n' key'
theorem Tb.stored {w' : World} {n b : Nat} {key x : Value} (h : Tb P k tM z w r N m c v) (hn : n < N) (hb : m n = some b) (hk : Kept [b] w w') (hm : MapT P k z w' b (c n + 1) (updV v n key x n)) :
   Tb P k tM z w' r N m (fun i => if i = n then c n + 1 else c i) (updV v n key x):=by
 obtain ⟨cur,h1,h2,h3⟩:=h.row
 have hne : r ≠ b:=h.rtag.ne_map (h.is n b hn hb).obj
 refine ⟨⟨cur,(hk.block r h.rtag.lt (by simpa using hne)).trans h1,h2,h3⟩,fun i b' hi hb' => ?_,fun i hi hi' a => ?_,h.inj⟩
 · by_cases e : i = n
   · subst e
     obtain rfl : b' = b:=by rw [hb] at hb';exact (Option.some.inj hb').symm
     simpa using hm
   · have h4:=(h.is i b' hi hb').kept hk (by intro hm';simp at hm';subst hm';exact e (h.inj i n b' hi hn hb' hb))
     simp only [if_neg e]
     refine h4.ext fun a => ?_
     simp [updV,e]
 · have e : i ≠ n:=by rintro rfl;rw [hb] at hi';cases hi'
   simp only [updV]
   rw [if_neg (fun hh => e hh.1)]
   exact h.no i hi hi' a
theorem Tb.fresh {n b : Nat} (h : Tb P k tM z w r N m c v) (hn : n < N) (hm : m n = none) (hb : b = w.heap.size) :
   Tb P k tM z ((w.alloc (.map #[] 0)).setCell ⟨r,n,none⟩ (.map (some b))) r N (fun i => if i = n then some b else m i) c v:=by
 subst hb
 obtain ⟨cur,h1,h2,h3⟩:=h.row
 have hr:=h.rtag.lt
 have h1' : (w.alloc (.map #[] 0)).heap[r]? = some (.cells cur tM (0,0)):=(((Kept.refl [] w).alloc _).block r hr (by simp)).trans h1
 have hrow : ((w.alloc (.map #[] 0)).setCell ⟨r,n,none⟩ (.map (some w.heap.size))).heap[r]? = some (.cells (cur.setIfInBounds n (.map (some w.heap.size))) tM (0,0)):=by
   unfold World.setCell
   simp only [Array.getElem?_modify]
   simp [h1']
 have hkx : Kept [r] (w.alloc (.map #[] 0)) ((w.alloc (.map #[] 0)).setCell ⟨r,n,none⟩ (.map (some w.heap.size))):=(Kept.refl _ _).set _ _ _ (.inl (by simp))
 refine ⟨⟨_,hrow,by simpa using h2,fun i hi => ?_⟩,fun i b' hi hb' => ?_,fun i hi hi' => ?_,fun i j b' hi hj hbi hbj => ?_⟩
 · by_cases e : i = n
   · subst e
     simp [h2,hi]
   · rw [Array.getElem?_setIfInBounds_ne (Ne.symm e),h3 i hi,if_neg e]
 · by_cases e : i = n
   · subst e
     rw [if_pos rfl] at hb'
     injection hb' with hb'
     subst hb'
     have h5 : MapT P k z (w.alloc (.map #[] 0)) w.heap.size (c i) (v i):=((MapT.made P k z w _ rfl).mono (Nat.zero_le _)).ext fun a => (h.no i hi hm a).symm
     exact h5.kept hkx (by simp;omega)
   · rw [if_neg e] at hb'
     have h4:=(h.is i b' hi hb').kept ((Kept.refl [] w).alloc (.map #[] 0)) (by simp)
     have h5 : b' ≠ r:=(h.rtag.ne_map (h.is i b' hi hb').obj).symm
     exact h4.kept hkx (by simpa using h5)
 · by_cases e : i = n
   · subst e;rw [if_pos rfl] at hi';cases hi'
   · rw [if_neg e] at hi'
     exact h.no i hi hi'
 · by_cases e : i = n
   · by_cases e' : j = n
     · omega
     · subst e
       rw [if_pos rfl] at hbi
       rw [if_neg e'] at hbj
       injection hbi with hbi
       have:=(h.is j b' hj hbj).lt
       omega
   · rw [if_neg e] at hbi
     by_cases e' : j = n
     · subst e'
       rw [if_pos rfl] at hbj
       injection hbj with hbj
       have:=(h.is i b' hi hbi).lt
       omega
     · rw [if_neg e'] at hbj
       exact h.inj i j b' hi hj hbi hbj
end Go.Df
namespace Go.Df
open Go.RowKit
theorem own_keptT {X : List Nat} {w w1 : World} {base : Nat} {e : TypeId} {k : Nat} {v : Value} {n : Nat} {xs : List Value} (h : w.ownsRow base e k v n xs) (hk : Kept X w w1) (hX : ∀ g,v.ownBlock = some g → g ∉ X) : w1.ownsRow base e k v n xs:=by
 refine ⟨h.1,?_⟩
 rcases h.2 with h2 | ⟨g,cap,cur,rfl,h3,h4,h5⟩
 · exact .inl h2
 · exact .inr ⟨g,cap,cur,rfl,h3,(hk.block g (Array.getElem?_eq_some_iff.1 h4).1 (hX g rfl)).trans h4,h5⟩
theorem own_cellsT {w : World} {base : Nat} {e : TypeId} {k n : Nat} {v : Value} {xs : List Value} (h : w.ownsRow base e k v n xs) (h0 : 0 < n) :
   ∃ g c,v = .slice (some ⟨g,0,none⟩) n c ∧ base ≤ g ∧ g < w.heap.size ∧ n ≤ c ∧ c ≤ maxLen ∧ (∀ i,i < n * k → w.cell? ⟨g,i,none⟩ = xs[i]?) ∧ ∀ i,w.frozen? ⟨g,i,none⟩ = false:=by
 rcases h.2 with ⟨rfl,rfl⟩ | ⟨g,cap,cur,rfl,hb,hh,hnc,hcm,hcs,htk⟩
 · omega
 · refine ⟨g,cap,rfl,hb,?_,hnc,hcm,fun i hi => ?_,fun i => ?_⟩
   · rcases Nat.lt_or_ge g w.heap.size with h1 | h1
     · exact h1
     · rw [Array.getElem?_eq_none h1] at hh;cases hh
   · rw [← htk,List.getElem?_take_of_lt hi]
     simp [World.cell?,hh]
   · simp [World.frozen?,hh]
abbrev SXu (X : List Nat) (ga gb : Nat) (W w' : World) : Prop:=Kept X W w' ∧ (∀ o,w'.cell? ⟨ga,o,none⟩ = W.cell? ⟨ga,o,none⟩) ∧ (∀ o,w'.cell? ⟨gb,o,none⟩ = W.cell? ⟨gb,o,none⟩)
theorem SXu.of {X : List Nat} {ga gb : Nat} {W w' : World} (h : Kept X W w') (ha : ga < W.heap.size) (hb : gb < W.heap.size) (xa : ga ∉ X) (xb : gb ∉ X) : SXu X ga gb W w':=⟨h,fun o => h.cell ga o ha xa,fun o => h.cell gb o hb xb⟩
namespace If
end If
end Go.Df
namespace Go.Proofs.YtincpmdldpakkaaGreatDoor
open Go.RowKit Go.Df Go.Df.If
theorem retNamedT {P : Program} {f : Func} {Q : Ending → World → Prop} {e : Exit} {a : Act} {w : World} (S : World → Prop) (h0 : S w) (h : ∀ X,S X → bodyPost P f Q e a X) : bodyPost P f Q e a w:=h w h0
theorem inti_info : (Tryz.prog.info? 3).map (fun i => (i.zero,i.size,i.bytes)) = some (some (.int .i64 0),1,8):=by kernel_rfl
theorem rowi_info : (Tryz.prog.info? 30).map (fun i => (i.zero,i.size,i.bytes)) = some (some (.slice none 0 0),1,24):=by kernel_rfl
end Go.Proofs.YtincpmdldpakkaaGreatDoor
namespace Go.Df
open Go.RowKit
theorem Rd.new2x (w : World) (b : Nat) (u v : Value) (t : TypeId) (hb : b = w.heap.size) : Rd (w.alloc (.cells #[u,v] t)) 2 (some ⟨b,0,none⟩) 1 [u,v]:=by
 subst hb
 refine ⟨rfl,fun _ => ⟨_,_,rfl,by simp,fun j _ => ?_⟩⟩
 rw [World.cell?_alloc_new,Nat.zero_add];simp
theorem own_cells {w : World} {base : Nat} {e : TypeId} {k n : Nat} {v : Value} {xs : List Value} (h : w.ownsRow base e k v n xs) (h0 : 0 < n) :
   ∃ g c,v = .slice (some ⟨g,0,none⟩) n c ∧ base ≤ g ∧ g < w.heap.size ∧ n ≤ c ∧ c ≤ maxLen ∧ (∀ i,i < n * k → w.cell? ⟨g,i,none⟩ = xs[i]?) ∧ ∀ i,w.frozen? ⟨g,i,none⟩ = false:=by
 rcases h.2 with ⟨rfl,rfl⟩ | ⟨g,cap,cur,rfl,hb,hh,hnc,hcm,hcs,htk⟩
 · omega
 · refine ⟨g,cap,rfl,hb,?_,hnc,hcm,fun i hi => ?_,fun i => ?_⟩
   · rcases Nat.lt_or_ge g w.heap.size with h1 | h1
     · exact h1
     · rw [Array.getElem?_eq_none h1] at hh;cases hh
   · rw [← htk,List.getElem?_take_of_lt hi]
     simp [World.cell?,hh]
   · simp [World.frozen?,hh]
end Go.Df
namespace Go.Proofs.YtincpmdldpakkaaGreatDoor
open Go.RowKit Go.Df
attribute [local go_sem ↓] Go.wp_at_zero Go.wp_at_succ
structure Vals (w : World) (g n : Nat) (f : Nat → Xf.V) : Prop where
 lt : g < w.heap.size
 c0 : ∀ i,i < n → w.cell? ⟨g,i * 2,none⟩ = some (.int .i64 (f i).k)
 c1 : ∀ i,i < n → w.cell? ⟨g,i * 2 + 1,none⟩ = some (.int .i64 (f i).n)
 fz : ∀ i,w.frozen? ⟨g,i,none⟩ = false
theorem Vals.kept {X : List Nat} {w w' : World} {g n : Nat} {f : Nat → Xf.V} (h : Vals w g n f) (hk : Kept X w w') (hx : g ∉ X) : Vals w' g n f :=
 ⟨Nat.lt_of_lt_of_le h.lt hk.size,fun i hi => (hk.cell g _ h.lt hx).trans (h.c0 i hi),fun i hi => (hk.cell g _ h.lt hx).trans (h.c1 i hi),fun i => (hk.frozen g _ h.lt hx).trans (h.fz i)⟩
theorem Vals.put {w : World} {g n : Nat} {f : Nat → Xf.V} (h : Vals w g n f) (x : Nat) (v : Xf.V) (hx : x < n) :
   Vals ((w.setCell ⟨g,x * 2,none⟩ (.int .i64 v.k)).setCell ⟨g,x * 2 + 1,none⟩ (.int .i64 v.n)) g n (fun i => if i = x then v else f i):=by
 refine ⟨by simpa [World.setCell] using h.lt,fun i hi => ?_,fun i hi => ?_,fun i => (World.frozen?_setCell _ _ _ _).trans ((World.frozen?_setCell _ _ _ _).trans (h.fz i))⟩
 · rw [set_other (.inr (by omega))]
   by_cases e : i = x
   · subst e;rw [if_pos rfl,set_same (h.c0 i hi)]
   · rw [if_neg e,set_other (.inr (by omega)),h.c0 i hi]
 · by_cases e : i = x
   · subst e;rw [if_pos rfl,set_same (u:=.int .i64 (f i).n) ((set_other (.inr (by omega))).trans (h.c1 i hi))]
   · rw [if_neg e,set_other (.inr (by omega)),set_other (.inr (by omega)),h.c1 i hi]
theorem val_info : (Tryz.prog.info? 46).map (fun i => (i.zero,i.size,i.bytes)) = some (some (.agg #[.int .i64 0,.int .i64 0]),2,16):=by kernel_rfl
set_option maxRecDepth 100000 in
set_option maxHeartbeats 1000000 in
theorem topsT_any (F : Nat) (w : World) (h1 : 1 ≤ F) (h2 : F ≤ 1024) :
   Calls Tryz.prog 43 #[.int .i64 F] w fun e w' => ∃ g c,e = .returned (.slice (some ⟨g,0,none⟩) F c) ∧ Vals w' g F (fun _ => ⟨0,0⟩) ∧ w.heap.size ≤ g ∧ F ≤ c ∧ Below w.heap.size w w' ∧ Tag w' g 46 ∧ ∀ i,i < F * 2 → w'.cell? ⟨g,i,none⟩ = some (.int .i64 0):=by
 obtain ⟨i0,hi,hz0,hz1,hz2⟩:=info_parts val_info
 go_enter Tryz.func43,Tryz.ntmps43
 go_wp2_with fail
 go_loopw [3,4] (fun s3 s4 wr => ∃ (j : Nat) (A : Option Addr) (c : Nat),j ≤ F ∧ s3 = .slice A j c ∧ s4 = .int .i64 j ∧ Kept [] w wr ∧ Hid (wr.ownsRow w.heap.size 46 2 (.slice A j c) j (List.replicate (j * 2) (Value.int .i64 0)))) (fun _ i _ => F - (intOf i).toNat)
 case atStart => exact ⟨0,none,0,Nat.zero_le _,rfl,rfl,Kept.refl _ _,Lib.hid (World.ownsRow_nil _ _ _ _)⟩
 case round =>
   obtain ⟨j,A,c,hj,rfl,rfl,hkr,own⟩:=hrel
   have hsz:=hkr.size
   by_cases hlt : j < F
   · have HAP : Hid (List.replicate (j * 2) (Value.int .i64 0) ++ [.int .i64 0, .int .i64 0] = List.replicate ((j + 1) * 2) (Value.int .i64 0)) := by
       show _ = _
       rw [show (j + 1) * 2 = j * 2 + 2 by omega,← List.replicate_append_replicate]
       rfl
     go_wp2_with (first
       | (at_builtin;refine wpList_append_rd _ rfl _ _ 39 rfl w.heap.size 46 i0 (.agg #[.int .i64 0,.int .i64 0]) 2 16 Tryz.underlying39 hi hz0 hz1 hz2 rfl (by decide) (.slice A j c) j (List.replicate (j * 2) (Value.int .i64 0)) rfl (own_keptK (X:=[]) own.out ((Kept.refl _ _).alloc _) (by simp)) (some ⟨wr.heap.size,0,none⟩) 1 1 [.int .i64 0,.int .i64 0] rfl (Rd.new2x _ _ _ _ _ rfl) (fun h => by cases h) (by intro u hu;simp at hu;subst hu;rfl) (j + 1) rfl (List.replicate ((j + 1) * 2) (Value.int .i64 0)) HAP.out (by unfold maxLen;omega) (by omega) (by simp;omega) ?_;intro A9 c9 w4 hown4 hk4 hat4;have HX : Hid (∀ y ∈ (Value.slice A j c).ownBlock.toList,w.heap.size ≤ y):=(fun y hy => own_ge own.out (by simpa using hy));have hk5:=Lib.hid ((hkr.alloc (.cells #[.int .i64 0,.int .i64 0] 46)).next hk4 (fun y hy => Or.inr (HX.out y hy)));have HO4:=Lib.hid hown4;clear hown4 hk4 hat4))
     exact ⟨⟨j + 1,A9,c9,by omega,rfl,by go_num,hk5.out,HO4⟩,by simp [intOf];omega⟩
   · obtain rfl : j = F:=by omega
     obtain ⟨g,c',hv,hb,hg,hc,-,hcell,hfz⟩:=own_cells own.out (by omega)
     have htg : Hid (Tag wr g 46):=Lib.hid (own_tag own.out (by rw [hv];rfl))
     injection hv with e1 e2 e3
     subst e1
     subst e3
     have HV : Hid (Vals wr g j (fun _ => ⟨0,0⟩)):=Lib.hid ⟨hg,fun i hi => by rw [hcell _ (by omega),List.getElem?_replicate,if_pos (by omega)],fun i hi => by rw [hcell _ (by omega),List.getElem?_replicate,if_pos (by omega)],hfz⟩
     have HCL : Hid (∀ i,i < j * 2 → wr.cell? ⟨g,i,none⟩ = some (.int .i64 0)):=Lib.hid (fun i hi => by rw [hcell _ hi,List.getElem?_replicate,if_pos hi])
     clear hcell hfz hlt
     go_wp2_with fail
     go_ret
     exact ⟨g,c,rfl,HV.out,hb,hc,hkr.toBelow,htg.out,HCL.out⟩
theorem tops_any (F : Nat) (w : World) (h1 : 1 ≤ F) (h2 : F ≤ 1024) :
   Calls Tryz.prog 43 #[.int .i64 F] w fun e w' => ∃ g c,e = .returned (.slice (some ⟨g,0,none⟩) F c) ∧ Vals w' g F (fun _ => ⟨0,0⟩) ∧ w.heap.size ≤ g ∧ F ≤ c ∧ Below w.heap.size w w' :=
 (topsT_any F w h1 h2).mono fun _ _ ⟨g,c,a1,a2,a3,a4,a5,_⟩ => ⟨g,c,a1,a2,a3,a4,a5⟩
end Go.Proofs.YtincpmdldpakkaaGreatDoor
namespace Go.Df
open Go.RowKit
theorem Sp.ordP_ge (a b : Sp.Xp) : decide (0 ≤ Sp.orL [Sp.cmpI a.i b.i,Sp.cmpI a.o b.o]) = !Sp.lessP a b:=by
 unfold Sp.lessP
 rw [Sp.or_cmp,Sp.or_last]
 split <;> rfl
theorem two_ints (w : World) (x y : Int) (t : TypeId) (b : Nat) (hb : b = w.heap.size) : Ints (w.alloc (.cells #[.int .i64 x,.int .i64 y] t)) (some ⟨b,0,none⟩) 2 [x,y]:=by
 subst hb
 refine ⟨rfl,fun _ => ⟨_,_,rfl,by simp,fun i hi => ?_⟩⟩
 rw [World.cell?_alloc_new,Nat.zero_add]
 match i,hi with
 | 0,_ => rfl
 | 1,_ => rfl
structure Gv (w : World) : Prop where
 c0 : w.cell? ⟨0,0,none⟩ = some (.int .i64 2)
 c1 : w.cell? ⟨0,1,none⟩ = some (.int .i64 0)
 c2 : w.cell? ⟨0,2,none⟩ = some (.int .i64 0)
 lt : 0 < w.heap.size
theorem Gv.later {w w' : World} (h : Gv w) (hb : Below w.heap.size w w') : Gv w':=⟨(hb.cell (p:=⟨0,_,none⟩) h.lt).trans h.c0,(hb.cell (p:=⟨0,_,none⟩) h.lt).trans h.c1,(hb.cell (p:=⟨0,_,none⟩) h.lt).trans h.c2,Nat.lt_of_lt_of_le h.lt hb.size⟩
end Go.Df
namespace Go.Proofs.YtincpmdldpakkaaGreatDoor
open Go.RowKit Go.Df
attribute [local go_sem ↓] Go.wp_at_zero Go.wp_at_succ
set_option maxRecDepth 100000 in
set_option maxHeartbeats 4000000 in
theorem cpairs_any (A : Option Addr) (n c : Nat) (F : Int) (l : List Sp.Xp) (w : World) (hp : Xps w A n l) (hgv : Gv w) :
   Calls Tryz.prog 73 #[.slice A n c,.int .i64 F] w fun e w' => e = .returned (.int .i64 (Sp.pairsErr F l)) ∧ Below w.heap.size w w':=by
 have HP:=Lib.hid hp
 have HGV:=Lib.hid hgv
 have HL:=Lib.hid hp.1
 clear hp hgv
 by_cases t1 : 8192 < n
 · have d1 : decide ((8192 : Int) < n) = true:=by simp;omega
   go_enter Tryz.func73,Tryz.ntmps73
   go_wp2_with fail
   go_ret
   exact ⟨ret_int (by unfold Sp.pairsErr;rw [HL.out,if_pos (by omega)]),Below.refl _ _⟩
 have d1 : decide ((8192 : Int) < n) = false:=by simp;omega
 have h8 : Hid (l.length ≤ 8192):=by show _ ≤ _;rw [HL.out];omega
 go_enter Tryz.func73,Tryz.ntmps73
 go_wp2_with fail
 go_loopw [13] (fun i wr => ∃ j : Nat,j ≤ n ∧ i = .int .i64 j ∧ Kept [] w wr ∧ Hid (∀ x,x < j → Sp.pairErr F l x = 0)) (fun i _ => n - (intOf i).toNat)
 case atStart => exact ⟨0,Nat.zero_le _,rfl,Kept.refl _ _,Lib.hid (fun j hj => absurd hj (by omega))⟩
 case round =>
   obtain ⟨j,hj,rfl,hkr,hno⟩:=hrel
   have hBr:=hkr.toBelow
   by_cases hlt : j < n
   · obtain ⟨b,o,rfl,hl,hc⟩:=(HP.out.later hBr).2 (by omega)
     obtain ⟨h1,h2,h3,h4,h5⟩:=hc j hlt
     have HC:=Lib.hid hc
     have LB:=Lib.hid hl
     clear hc
     obtain ⟨xi,xo,xk,xb,xc,en⟩ : ∃ xi xo xk xb xc,Sp.gx l j = ⟨xi,xo,xk,xb,xc⟩:=⟨_,_,_,_,_,rfl⟩
     rw [en] at h1 h2 h3 h4 h5
     have HE:=Lib.hid en
     clear en
     go_upto_region 6 with fail
     refine wp_named (fun V => ∃ g,wr.heap.size = g ∧ Blk V g [.int .i64 xi,.int .i64 xo,.int .i64 xk,.int .i64 xb,.int .i64 xc] ∧ Kept [] wr V) ⟨_,rfl,Blk.new _ _ _ _ rfl,(Kept.refl _ _).alloc _⟩ ?_
     rintro V ⟨g,eg,Bg,hkV⟩
     rw [eg]
     have hkw : Kept [] w V:=keptTrans hkr hkV
     have ⟨LG,CG,FG⟩:=Bg
     have hBV:=hkw.toBelow
     clear h1 h2 h3 h4 h5 eg
     have hbad : Hid (∀ e,Sp.pairErr F l j = e → e ≠ 0 → Sp.pairsErr F l = e):=fun e h1 h2 => Sp.pairs_hit h8.out hno.out (by rw [HL.out];exact hlt) h1 h2
     have hstep : Hid (Sp.pairErr F l j = 0 → ∀ x,x < j + 1 → Sp.pairErr F l x = 0):=fun h0 x hx => by
       rcases Nat.lt_or_ge x j with h9 | h9
       · exact hno.out x h9
       · obtain rfl : x = j:=by omega
         exact h0
     have HEr : Hid (Sp.pairErr F l j = if xi < 0 ∨ F ≤ xi ∨ xo < 0 ∨ F ≤ xo then 4 else if 0 < j ∧ Sp.lessP (Sp.gx l (j - 1)) ⟨xi,xo,xk,xb,xc⟩ = false then 13 else Sp.xerr xk xb xc):=by
       show _ = _
       unfold Sp.pairErr
       rw [HE.out]
     by_cases r0 : xi < 0
     · have z : decide (xi < 0) = true:=by simpa using r0
       have hE:=Lib.hid (hbad.out 4 (by rw [HEr.out,if_pos (by omega)]) (by omega))
       go_wp2_with fail
       go_ret
       exact ⟨ret_int hE.out.symm,hBV⟩
     have z0 : decide (xi < 0) = false:=by simpa using r0
     by_cases r1 : F ≤ xi
     · have z : decide (F ≤ xi) = true:=by simpa using r1
       have hE:=Lib.hid (hbad.out 4 (by rw [HEr.out,if_pos (by omega)]) (by omega))
       go_wp2_with fail
       go_ret
       exact ⟨ret_int hE.out.symm,hBV⟩
     have z1 : decide (F ≤ xi) = false:=by simpa using r1
     by_cases r2 : xo < 0
     · have z : decide (xo < 0) = true:=by simpa using r2
       have hE:=Lib.hid (hbad.out 4 (by rw [HEr.out,if_pos (by omega)]) (by omega))
       go_wp2_with fail
       go_ret
       exact ⟨ret_int hE.out.symm,hBV⟩
     have z2 : decide (xo < 0) = false:=by simpa using r2
     by_cases r3 : F ≤ xo
     · have z : decide (F ≤ xo) = true:=by simpa using r3
       have hE:=Lib.hid (hbad.out 4 (by rw [HEr.out,if_pos (by omega)]) (by omega))
       go_wp2_with fail
       go_ret
       exact ⟨ret_int hE.out.symm,hBV⟩
     have z3 : decide (F ≤ xo) = false:=by simpa using r3
     have HEy : Hid (Sp.pairErr F l j = if 0 < j ∧ Sp.lessP (Sp.gx l (j - 1)) ⟨xi,xo,xk,xb,xc⟩ = false then 13 else Sp.xerr xk xb xc):=by
       show _ = _
       rw [HEr.out,if_neg (by omega)]
     clear HEr r0 r1 r2 r3
     by_cases hj0 : j = 0
     · have y1 : decide (0 < j) = false:=by simp;omega
       have y2 : decide ((0 : Int) < (j : Int)) = false:=by simp;omega
       have HEz : Hid (Sp.pairErr F l j = Sp.xerr xk xb xc):=by show _ = _;rw [HEy.out,if_neg (by omega)]
       clear hj0
       go_upto_region 8 with fail
       go_quiet (fail)
       go_wp2_with fail
       refine (xcheck_any xk xb xc _).mono ?_
       rintro e w5 ⟨rfl,hb5⟩
       have hk5 : Kept [] w w5:=(hkw.drewN _).call hb5
       by_cases hx0 : Sp.xerr xk xb xc = 0
       · rw [hx0]
         have hfin:=Lib.hid (hstep.out (by rw [HEz.out,hx0]))
         clear hx0
         go_wp2_with fail
         exact ⟨⟨j + 1,by omega,by go_num,hk5,hfin⟩,by simp [intOf];omega⟩
       · have hE:=Lib.hid (hbad.out _ HEz.out hx0)
         have hx0' : (Sp.xerr xk xb xc != 0) = true:=by simpa using hx0
         clear hx0
         go_wp2_with fail
         go_ret
         exact ⟨ret_int hE.out.symm,hk5.toBelow⟩
     have y1 : decide (0 < j) = true:=by simp;omega
     have y2 : decide ((0 : Int) < (j : Int)) = true:=by simp;omega
     have y3 : IntKind.i64.wrap ((j : Int) - 1) = (j : Int) - 1:=IntWalk.i64_in _ (by omega)
     have y4 : (0 : Int) ≤ (j : Int) - 1:=by omega
     have y5 : ((j : Int) - 1).toNat = j - 1:=by omega
     have y6 : (j : Int) - 1 < (n : Int):=by omega
     have y7 : 0 < j:=by omega
     have y8 : 1 ≤ j:=by omega
     have y9 : (1 : Int) ≤ (j : Int):=by omega
     have y10 : j ≤ n:=by omega
     have y11 : j < n + 1:=by omega
     have y12 : (j : Int) < (n : Int) + 1:=by omega
     have y13 : (j : Int) ≤ (n : Int):=by omega
     obtain ⟨p1,p2,-,-,-⟩:=HC.out (j - 1) (by omega)
     obtain ⟨pi,po,pk,pb,pc,ep⟩ : ∃ pi po pk pb pc,Sp.gx l (j - 1) = ⟨pi,po,pk,pb,pc⟩:=⟨_,_,_,_,_,rfl⟩
     rw [ep] at p1 p2
     have q1 : V.cell? ⟨b,o + (j - 1) * 5,none⟩ = some (.int .i64 pi):=(hkV.cell b _ LB.out (by simp)).trans p1
     have q2 : V.cell? ⟨b,o + (j - 1) * 5 + 1,none⟩ = some (.int .i64 po):=(hkV.cell b _ LB.out (by simp)).trans p2
     have hbV : b < V.heap.size:=Nat.lt_of_lt_of_le LB.out hkV.size
     have HEx : Hid (Sp.pairErr F l j = if Sp.lessP ⟨pi,po,pk,pb,pc⟩ ⟨xi,xo,xk,xb,xc⟩ = false then 13 else Sp.xerr xk xb xc):=by
       show _ = _
       rw [HEy.out,ep]
       simp [y7]
     clear p1 p2 ep hj0
     go_upto_region 8 with fail
     go_cut [62] (fun s wx => s = .bool (!Sp.lessP ⟨pi,po,pk,pb,pc⟩ ⟨xi,xo,xk,xb,xc⟩) ∧ Kept [] V wx)
     case first =>
       go_region_held3 (fun w' => SX0 V w') (exact kp0)
         (first | (go_at_call 55;refine (compare_any _ _ _).mono ?_;rintro e w1 ⟨rfl,rfl⟩) | (go_at_call 54;refine (or_any _ _ _ [Sp.cmpI pi xi,Sp.cmpI po xo] _ (by first | exact two_ints _ _ _ _ _ (by first | rfl | simp) | exact Ints.drew (two_ints _ _ _ _ _ (by first | rfl | simp))) (by omega) (by omega)).mono ?_;rintro e w2 ⟨rfl,rfl⟩))
       all_goals
         go_wp2_with fail
         go_meet
         refine ⟨congrArg Value.bool (Sp.ordP_ge ⟨pi,po,pk,pb,pc⟩ ⟨xi,xo,xk,xb,xc⟩),?_⟩
         (exact kpt0)
     case rest =>
       obtain ⟨rfl,hkc⟩:=hcut
       have hkwc : Kept [] w wc:=keptTrans hkw hkc
       have ⟨LC,CC,FC⟩:=hkc.blk (by simp) Bg
       clear CG FG q1 q2
       by_cases hles : Sp.lessP ⟨pi,po,pk,pb,pc⟩ ⟨xi,xo,xk,xb,xc⟩ = true
       · rw [hles]
         have HEz : Hid (Sp.pairErr F l j = Sp.xerr xk xb xc):=by show _ = _;rw [HEx.out,hles,if_neg (by simp)]
         clear hles
         go_wp2_with fail
         refine (xcheck_any xk xb xc _).mono ?_
         rintro e w5 ⟨rfl,hb5⟩
         have hk5 : Kept [] w w5:=(hkwc).call hb5
         by_cases hx0 : Sp.xerr xk xb xc = 0
         · rw [hx0]
           have hfin:=Lib.hid (hstep.out (by rw [HEz.out,hx0]))
           clear hx0
           go_wp2_with fail
           exact ⟨⟨j + 1,by omega,by go_num,hk5,hfin⟩,by simp [intOf];omega⟩
         · have hE:=Lib.hid (hbad.out _ HEz.out hx0)
           have hx0' : (Sp.xerr xk xb xc != 0) = true:=by simpa using hx0
           clear hx0
           go_wp2_with fail
           go_ret
           exact ⟨ret_int hE.out.symm,hk5.toBelow⟩
       · rw [Bool.not_eq_true] at hles
         rw [hles]
         have hE:=Lib.hid (hbad.out 13 (by rw [HEx.out,hles,if_pos rfl]) (by omega))
         clear hles
         go_wp2_with fail
         go_ret
         exact ⟨ret_int hE.out.symm,hkwc.toBelow⟩
   · obtain rfl : j = n:=by omega
     have hall : Hid (∀ x,x < l.length → Sp.pairErr F l x = 0):=fun x hx => hno.out x (by rw [HL.out] at hx;exact hx)
     have HZ:=Lib.hid (Sp.pairs_end h8.out hall.out)
     obtain ⟨gv0,gv1,gv2,gvl⟩:=HGV.out.later hBr
     clear hno hlt
     by_cases hn0 : j = 0
     · have k1 : ((j : Int) == 0) = true:=by simp;omega
       have k2 : (j == 0) = true:=by simp;omega
       have hE : Hid (Sp.pairsErr F l = 1):=by show _ = _;rw [HZ.out,if_pos (.inl (by rw [HL.out];exact hn0))]
       have HN0:=Lib.hid hn0
       clear hn0
       go_upto_region 14 with fail
       go_quiet (fail)
       go_wp2_with fail
       go_ret
       exact ⟨ret_int hE.out.symm,(hkr.drewN _).toBelow⟩
     · have k1 : ((j : Int) == 0) = false:=by simp;omega
       have k2 : (j == 0) = false:=by simp;omega
       obtain ⟨b,o,rfl,hl,hc⟩:=(HP.out.later hBr).2 (by omega)
       obtain ⟨h1,h2,h3,h4,h5⟩:=hc 0 (by omega)
       simp only [Nat.zero_mul,Nat.add_zero] at h1 h2 h3 h4 h5
       obtain ⟨xi,xo,xk,xb,xc,en⟩ : ∃ xi xo xk xb xc,Sp.gx l 0 = ⟨xi,xo,xk,xb,xc⟩:=⟨_,_,_,_,_,rfl⟩
       rw [en] at h1 h2 h3 h4 h5
       have hjp : 0 < j:=by omega
       have HE : Hid (Sp.pairsErr F l = if (⟨xi,xo,xk,xb,xc⟩ : Sp.Xp) ≠ ⟨0,0,2,0,0⟩ then 1 else 0):=by
         show _ = _
         rw [HZ.out,en,HL.out]
         simp [hn0]
       clear en hc hn0
       by_cases hq : (⟨xi,xo,xk,xb,xc⟩ : Sp.Xp) = ⟨0,0,2,0,0⟩
       · obtain ⟨rfl,rfl,rfl,rfl,rfl⟩ : xi = 0 ∧ xo = 0 ∧ xk = 2 ∧ xb = 0 ∧ xc = 0:=by simpa using hq
         have hE:=Lib.hid (HE.out.trans (if_neg (not_not_intro rfl)))
         clear hq
         go_upto_region 14 with fail
         go_quiet (fail)
         go_wp2_with fail
         go_ret
         exact ⟨ret_int hE.out.symm,(hkr.drewN _).toBelow⟩
       · have hE:=Lib.hid (HE.out.trans (if_pos hq))
         have HQ:=Lib.hid hq
         clear hq
         by_cases exi : xi = 0
         case neg =>
           have fxi : (xi == 0) = false:=by simpa using exi
           have fxi' : (xi != 0) = true:=by simpa using exi
           clear exi
           go_upto_region 14 with fail
           go_quiet (fail)
           go_wp2_with fail
           all_goals
             go_ret
             exact ⟨ret_int hE.out.symm,(hkr.drewN _).toBelow⟩
         subst exi
         by_cases exo : xo = 0
         case neg =>
           have fxo : (xo == 0) = false:=by simpa using exo
           have fxo' : (xo != 0) = true:=by simpa using exo
           clear exo
           go_upto_region 14 with fail
           go_quiet (fail)
           go_wp2_with fail
           all_goals
             go_ret
             exact ⟨ret_int hE.out.symm,(hkr.drewN _).toBelow⟩
         subst exo
         by_cases exk : xk = 2
         case neg =>
           have fxk : (xk == 2) = false:=by simpa using exk
           have fxk' : (xk != 2) = true:=by simpa using exk
           clear exk
           go_upto_region 14 with fail
           go_quiet (fail)
           go_wp2_with fail
           all_goals
             go_ret
             exact ⟨ret_int hE.out.symm,(hkr.drewN _).toBelow⟩
         subst exk
         by_cases exb : xb = 0
         case neg =>
           have fxb : (xb == 0) = false:=by simpa using exb
           have fxb' : (xb != 0) = true:=by simpa using exb
           clear exb
           go_upto_region 14 with fail
           go_quiet (fail)
           go_wp2_with fail
           all_goals
             go_ret
             exact ⟨ret_int hE.out.symm,(hkr.drewN _).toBelow⟩
         subst exb
         by_cases exc : xc = 0
         case neg =>
           have fxc : (xc == 0) = false:=by simpa using exc
           have fxc' : (xc != 0) = true:=by simpa using exc
           clear exc
           go_upto_region 14 with fail
           go_quiet (fail)
           go_wp2_with fail
           all_goals
             go_ret
             exact ⟨ret_int hE.out.symm,(hkr.drewN _).toBelow⟩
         subst exc
         exact absurd rfl HQ.out
end Go.Proofs.YtincpmdldpakkaaGreatDoor
namespace Go.Df
open Go.RowKit
namespace Sp
def gl (ls : List (List Xp)) (i : Nat) : List Xp:=ls.getD i []
def lessS (a b : Vs) : Bool:=if a.n ≠ b.n then decide (a.n < b.n) else decide (a.f < b.f)
theorem ordS_ge (a b : Vs) : decide (0 ≤ orL [cmpI a.n b.n,cmpI a.f b.f]) = !lessS a b:=by
 unfold lessS
 rw [or_cmp,or_last]
 split <;> rfl
def seedErr (N : Nat) (F : Int) (l : List Vs) (j : Nat) : Int :=
 if (gs l j).n < 0 ∨ (N : Int) ≤ (gs l j).n ∨ (gs l j).f < 1 ∨ F ≤ (gs l j).f then 4
 else if verr (gs l j).k (gs l j).v ≠ 0 then verr (gs l j).k (gs l j).v
 else if 0 < j ∧ lessS (gs l (j - 1)) (gs l j) = false then 13 else 0
def ideErr (ns : List Nd) (es : List Ed) (m F : Int) (ls : List (List Xp)) (sd : List Vs) : Int :=
 if superErr ns es m ≠ 0 then superErr ns es m else if F < 1 ∨ 1024 < F then 4 else if ls.length ≠ es.length then 20
 else if fe (fun i => pairsErr F (gl ls i)) 0 ls.length ≠ 0 then fe (fun i => pairsErr F (gl ls i)) 0 ls.length else fe (seedErr ns.length F sd) 0 sd.length
theorem ide_flow {ns : List Nd} {es : List Ed} {m F : Int} {ls : List (List Xp)} {sd : List Vs} {e : Int} {j : Nat} (h1 : superErr ns es m = 0) (h2 : ¬ (F < 1 ∨ 1024 < F)) (h3 : ls.length = es.length)
   (h : ∀ x,x < j → pairsErr F (gl ls x) = 0) (hj : j < ls.length) (he : pairsErr F (gl ls j) = e) (h0 : e ≠ 0) : ideErr ns es m F ls sd = e:=by
 unfold ideErr
 rw [if_neg (not_not_intro h1),if_neg h2,if_neg (not_not_intro h3),fe_hit h hj he h0,if_pos h0]
theorem ide_seed {ns : List Nd} {es : List Ed} {m F : Int} {ls : List (List Xp)} {sd : List Vs} {e : Int} {j : Nat} (h1 : superErr ns es m = 0) (h2 : ¬ (F < 1 ∨ 1024 < F)) (h3 : ls.length = es.length)
   (h4 : ∀ x,x < ls.length → pairsErr F (gl ls x) = 0) (h : ∀ x,x < j → seedErr ns.length F sd x = 0) (hj : j < sd.length) (he : seedErr ns.length F sd j = e) (h0 : e ≠ 0) : ideErr ns es m F ls sd = e:=by
 unfold ideErr
 rw [if_neg (not_not_intro h1),if_neg h2,if_neg (not_not_intro h3),fe_ok ls.length 0 (fun i _ hi => h4 i (by omega)),if_neg (by simp),fe_hit h hj he h0]
theorem ide_ok {ns : List Nd} {es : List Ed} {m F : Int} {ls : List (List Xp)} {sd : List Vs} (h1 : superErr ns es m = 0) (h2 : ¬ (F < 1 ∨ 1024 < F)) (h3 : ls.length = es.length)
   (h4 : ∀ x,x < ls.length → pairsErr F (gl ls x) = 0) (h : ∀ x,x < sd.length → seedErr ns.length F sd x = 0) : ideErr ns es m F ls sd = 0:=by
 unfold ideErr
 rw [if_neg (not_not_intro h1),if_neg h2,if_neg (not_not_intro h3),fe_ok ls.length 0 (fun i _ hi => h4 i (by omega)),if_neg (by simp),fe_ok sd.length 0 (fun i _ hi => h i (by omega))]
end Sp
theorem Xps.kept {w w' : World} {A : Option Addr} {n : Nat} {l : List Sp.Xp} (h : Xps w A n l) (hk : Kept [] w w') : Xps w' A n l:=h.later hk.toBelow
def Fls (w : World) (A : Option Addr) (n : Nat) (ls : List (List Sp.Xp)) : Prop :=
 ls.length = n ∧ (0 < n → ∃ b o,A = some ⟨b,o,none⟩ ∧ b < w.heap.size ∧ ∀ i,i < n → ∃ Ai ni ci,w.cell? ⟨b,o + i,none⟩ = some (.slice Ai ni ci) ∧ Xps w Ai ni (Sp.gl ls i))
def Vss (w : World) (A : Option Addr) (n : Nat) (l : List Sp.Vs) : Prop :=
 l.length = n ∧ (0 < n → ∃ b o,A = some ⟨b,o,none⟩ ∧ b < w.heap.size ∧ ∀ i,i < n → w.cell? ⟨b,o + i * 4,none⟩ = some (.int .i64 (Sp.gs l i).n) ∧ w.cell? ⟨b,o + i * 4 + 1,none⟩ = some (.int .i64 (Sp.gs l i).f) ∧ w.cell? ⟨b,o + i * 4 + 2,none⟩ = some (.int .i64 (Sp.gs l i).k) ∧ w.cell? ⟨b,o + i * 4 + 3,none⟩ = some (.int .i64 (Sp.gs l i).v))
theorem Fls.later {w w' : World} {A : Option Addr} {n : Nat} {ls : List (List Sp.Xp)} (h : Fls w A n ls) (hb : Below w.heap.size w w') : Fls w' A n ls :=
 ⟨h.1,fun hn => by
   obtain ⟨b,o,e,hl,hc⟩:=h.2 hn
   refine ⟨b,o,e,Nat.lt_of_lt_of_le hl hb.size,fun i hi => ?_⟩
   obtain ⟨Ai,ni,ci,h1,h2⟩:=hc i hi
   exact ⟨Ai,ni,ci,(hb.cell (p:=⟨b,_,none⟩) hl).trans h1,h2.later hb⟩⟩
theorem Vss.later {w w' : World} {A : Option Addr} {n : Nat} {l : List Sp.Vs} (h : Vss w A n l) (hb : Below w.heap.size w w') : Vss w' A n l :=
 ⟨h.1,fun hn => by
   obtain ⟨b,o,e,hl,hc⟩:=h.2 hn
   exact ⟨b,o,e,Nat.lt_of_lt_of_le hl hb.size,fun i hi => ⟨(hb.cell (p:=⟨b,_,none⟩) hl).trans (hc i hi).1,(hb.cell (p:=⟨b,_,none⟩) hl).trans (hc i hi).2.1,(hb.cell (p:=⟨b,_,none⟩) hl).trans (hc i hi).2.2.1,(hb.cell (p:=⟨b,_,none⟩) hl).trans (hc i hi).2.2.2⟩⟩⟩
end Go.Df
