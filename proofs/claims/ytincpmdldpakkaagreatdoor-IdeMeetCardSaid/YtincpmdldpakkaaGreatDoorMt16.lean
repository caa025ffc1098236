/- Texts: Yg Ye. -/
import Derived.Test.YtincpmdldpakkaaGreatDoorMt14
import Derived.Test.YtincpmdldpakkaaGreatDoorMt15
import Derived.Test.YtincpmdldpakkaaGreatDoorMt07
import Derived.Test.YtincpmdldpakkaaGreatDoorMt12
namespace Go.Df
open Go.RowKit
structure SInP (O : Nat → Prop) (w : World) (A : Option Addr) (n c : Nat) (l : List Int) : Prop where
 sin : SIn w A n c l
 safe : ∀ a,A = some a → SafeB O w a.block
theorem SInP.fx {O O' : Nat → Prop} {w w' : World} {A : Option Addr} {n c : Nat} {l : List Int} (h : SInP O w A n c l) (f : Fx O O' w w') : SInP O' w' A n c l:=by
 refine ⟨⟨⟨h.sin.1.1,fun hn => ?_⟩,h.sin.2⟩,fun a ha => (h.safe a ha).fx f⟩
 obtain ⟨b,o,e,hl,hc⟩:=h.sin.1.2 hn
 have hs:=h.safe _ e
 exact ⟨b,o,e,(hs.fx f).1,fun i hi => (hs.cell f (o + i)).trans (hc i hi)⟩
theorem SInP.new {O : Nat → Prop} {w w' : World} {A : Option Addr} {n c : Nat} {l : List Int} (h : SIn w' A n c l) (hf : Fr w w' A) (hO : ∀ x,O x → x < w.heap.size) : SInP O w' A n c l :=
 ⟨h,fun a ha => ⟨(hf a ha).2,fun ho => by have:=hO _ ho;have:=(hf a ha).1;omega⟩⟩
theorem SInP.step {O : Nat → Prop} {w w1 : World} {A A' : Option Addr} {n c n' c' : Nat} {l l' : List Int} (h : SInP O w A n c l) (hk : Kept [] w w1) (hi : SIn w1 A' n' c' l')
   (hf : ∀ a,A' = some a → (∃ a0,A = some a0 ∧ a.block = a0.block) ∨ (w.heap.size ≤ a.block ∧ a.block < w1.heap.size)) (hO : ∀ x,O x → x < w.heap.size) : SInP O w1 A' n' c' l':=by
 refine ⟨hi,fun a ha => ?_⟩
 rcases hf a ha with ⟨a0,h1,h2⟩ | ⟨h1,h2⟩
 · rw [h2]
   exact (h.safe a0 h1).fx (.same hk)
 · exact ⟨h2,fun ho => by have:=hO _ ho;omega⟩
theorem SInP.keptX {O : Nat → Prop} {X : List Nat} {w w1 : World} {A : Option Addr} {n c : Nat} {l : List Int} (h : SInP O w A n c l) (hk : Kept X w w1) (hX : ∀ a,A = some a → a.block ∉ X) : SInP O w1 A n c l :=
 ⟨h.sin.keptX hk (fun _ a ha => hX a ha),fun a ha => ⟨Nat.lt_of_lt_of_le (h.safe a ha).1 hk.size,(h.safe a ha).2⟩⟩
theorem SInP.none (O : Nat → Prop) (w : World) : SInP O w none 0 0 []:=⟨SIn.nil w,fun a h => by cases h⟩
def Vl (O : Nat → Prop) (w : World) (v : Value) (l : List Int) : Prop:=∃ A n c,v = .slice A n c ∧ SInP O w A n c l
theorem Vl.fx {O O' : Nat → Prop} {w w' : World} {v : Value} {l : List Int} (h : Vl O w v l) (f : Fx O O' w w') : Vl O' w' v l:=by
 obtain ⟨A,n,c,e,h⟩:=h
 exact ⟨A,n,c,e,h.fx f⟩
theorem vl_own {O : Nat → Prop} {w w6 w7 : World} {A : Option Addr} {n c : Nat} {l : List Int} (h : ∃ A' c',(Value.slice A n c) = .slice A' n c' ∧ SIn w6 A' n c' l ∧ ∀ a,A' = some a → w.heap.size ≤ a.block ∧ a.block < w6.heap.size) (hO : ∀ x,O x → x < w.heap.size) (hk : Kept [] w6 w7) : Vl O w7 (.slice A n c) l:=by
 obtain ⟨A',c',e,hin,hge⟩:=h
 injection e with e1 _ e3
 subst e1 e3
 exact ⟨A,n,c,rfl,(SInP.new (w:=w) hin hge hO).fx (.same hk)⟩
def VlS (O : Nat → Prop) (w : World) (vs : List Value) (ls : List (List Int)) : Prop:=vs.length = ls.length ∧ ∀ (i : Nat) (l : List Int),ls[i]? = some l → ∃ v,vs[i]? = some v ∧ Vl O w v l
theorem VlS.fx {O O' : Nat → Prop} {w w' : World} {vs : List Value} {ls : List (List Int)} (h : VlS O w vs ls) (f : Fx O O' w w') : VlS O' w' vs ls :=
 ⟨h.1,fun i l e => by obtain ⟨v,h1,h2⟩:=h.2 i l e;exact ⟨v,h1,h2.fx f⟩⟩
theorem VlS.nil (O : Nat → Prop) (w : World) : VlS O w [] []:=⟨rfl,fun i l e => by simp at e⟩
theorem VlS.snoc {O : Nat → Prop} {w : World} {vs : List Value} {ls : List (List Int)} {v : Value} {l : List Int} (h : VlS O w vs ls) (hv : Vl O w v l) : VlS O w (vs ++ [v]) (ls ++ [l]):=by
 refine ⟨by simp [h.1],fun i l' e => ?_⟩
 by_cases hi : i < ls.length
 · rw [List.getElem?_append_left hi] at e
   obtain ⟨v',h1,h2⟩:=h.2 i l' e
   exact ⟨v',by rw [List.getElem?_append_left (by rw [h.1];exact hi)];exact h1,h2⟩
 · rw [List.getElem?_append_right (by omega)] at e
   have hi2 : i - ls.length = 0:=by
     rcases Nat.lt_or_ge 0 (i - ls.length) with h9 | h9
     · rw [List.getElem?_eq_none (by simp;omega)] at e;cases e
     · omega
   rw [hi2] at e
   have e : l = l':=by simpa using e
   subst e
   refine ⟨v,?_,hv⟩
   rw [List.getElem?_append_right (by rw [h.1];omega),h.1,hi2]
   rfl
def Cs (O : Nat → Prop) (w : World) (vs : List Value) (l : List (Int × List Int)) : Prop:=vs.length = l.length * 2 ∧ ∀ (i : Nat) (x : Int × List Int),l[i]? = some x → vs[i * 2]? = some (.int .i64 x.1) ∧ ∃ v,vs[i * 2 + 1]? = some v ∧ Vl O w v x.2.reverse
theorem Cs.fx {O O' : Nat → Prop} {w w' : World} {vs : List Value} {l : List (Int × List Int)} (h : Cs O w vs l) (f : Fx O O' w w') : Cs O' w' vs l :=
 ⟨h.1,fun i x e => by obtain ⟨h0,v,h1,h2⟩:=h.2 i x e;exact ⟨h0,v,h1,h2.fx f⟩⟩
theorem Cs.nil (O : Nat → Prop) (w : World) : Cs O w [] []:=⟨rfl,fun i l e => by simp at e⟩
theorem Cs.snoc {O : Nat → Prop} {w : World} {vs : List Value} {l : List (Int × List Int)} {v : Value} {a : Int} {cs : List Int} (h : Cs O w vs l) (hv : Vl O w v cs.reverse) : Cs O w (vs ++ [.int .i64 a,v]) (l ++ [(a,cs)]):=by
 refine ⟨by simp [h.1];omega,fun i x e => ?_⟩
 by_cases hi : i < l.length
 · rw [List.getElem?_append_left hi] at e
   obtain ⟨h0,v',h1,h2⟩:=h.2 i x e
   exact ⟨by rw [List.getElem?_append_left (by rw [h.1];omega)];exact h0,v',by rw [List.getElem?_append_left (by rw [h.1];omega)];exact h1,h2⟩
 · rw [List.getElem?_append_right (by omega)] at e
   have hi2 : i - l.length = 0:=by
     rcases Nat.lt_or_ge 0 (i - l.length) with h9 | h9
     · rw [List.getElem?_eq_none (by simp;omega)] at e;cases e
     · omega
   rw [hi2] at e
   have e : (a,cs) = x:=by simpa using e
   subst e
   have hi3 : i = l.length:=by omega
   subst hi3
   refine ⟨?_,v,?_,hv⟩
   · rw [List.getElem?_append_right (by rw [h.1];omega),h.1,Nat.sub_self];rfl
   · rw [List.getElem?_append_right (by rw [h.1];omega),h.1,show l.length * 2 + 1 - l.length * 2 = 1 by omega];rfl
def ow3 (a b c : Value) (x : Nat) : Prop:=a.ownBlock = some x ∨ b.ownBlock = some x ∨ c.ownBlock = some x
structure AM (te ts : TypeId) (lim : Nat) (w : World) (ov nv lv : Value) (An As : Option Addr) (out nx : List (List Int)) (lt : List (Int × List Int)) (Ln : List (List Int)) (Ls : List (Int × List Int)) : Prop where
 own1 : ∃ vs,w.ownsRow lim te 1 ov out.length vs ∧ VlS (ow3 ov nv lv) w vs out
 own2 : ∃ vs,w.ownsRow lim te 1 nv nx.length vs ∧ VlS (ow3 ov nv lv) w vs nx
 own3 : ∃ vs,w.ownsRow lim ts 2 lv lt.length vs ∧ Cs (ow3 ov nv lv) w vs lt
 now : ∃ vs,Rd w 1 An Ln.length vs ∧ VlS (ow3 ov nv lv) w vs Ln
 sts : ∃ vs,Rd w 2 As Ls.length vs ∧ Cs (ow3 ov nv lv) w vs Ls
 sn : ∀ a,An = some a → SafeB (ow3 ov nv lv) w a.block
 ss : ∀ a,As = some a → SafeB (ow3 ov nv lv) w a.block
 d12 : ∀ x,ov.ownBlock = some x → nv.ownBlock ≠ some x
 d13 : ∀ x,ov.ownBlock = some x → lv.ownBlock ≠ some x
 d23 : ∀ x,nv.ownBlock = some x → lv.ownBlock ≠ some x
section
variable {te ts : TypeId} {lim : Nat} {w w1 : World} {ov nv lv ov' nv' lv' : Value} {An As : Option Addr} {out nx : List (List Int)} {lt : List (Int × List Int)} {Ln : List (List Int)} {Ls : List (Int × List Int)}
theorem rd_fx {O O' : Nat → Prop} {k n : Nat} {A : Option Addr} {cs : List Value} (h : Rd w k A n cs) (hs : ∀ a,A = some a → SafeB O w a.block) (f : Fx O O' w w1) : Rd w1 k A n cs :=
 ⟨h.1,fun hn => by
   obtain ⟨b,o,e,hl,hc⟩:=h.2 hn
   have h9:=hs _ e
   exact ⟨b,o,e,(h9.fx f).1,fun j hj => (h9.cell f (o + j)).trans (hc j hj)⟩⟩
theorem own_fx {base : Nat} {e : TypeId} {k n : Nat} {v : Value} {xs : List Value} (h : w.ownsRow base e k v n xs) (hk : Kept [] w w1) : w1.ownsRow base e k v n xs:=own_keptT h hk (by simp)
theorem AM.kept (h : AM te ts lim w ov nv lv An As out nx lt Ln Ls) (hk : Kept [] w w1) : AM te ts lim w1 ov nv lv An As out nx lt Ln Ls:=by
 have f : Fx (ow3 ov nv lv) (ow3 ov nv lv) w w1:=.same hk
 obtain ⟨v1,a1,b1⟩:=h.own1
 obtain ⟨v2,a2,b2⟩:=h.own2
 obtain ⟨v3,a3,b3⟩:=h.own3
 obtain ⟨v4,a4,b4⟩:=h.now
 obtain ⟨v5,a5,b5⟩:=h.sts
 exact ⟨⟨v1,own_fx a1 hk,b1.fx f⟩,⟨v2,own_fx a2 hk,b2.fx f⟩,⟨v3,own_fx a3 hk,b3.fx f⟩,⟨v4,rd_fx a4 h.sn f,b4.fx f⟩,⟨v5,rd_fx a5 h.ss f,b5.fx f⟩,fun a e => (h.sn a e).fx f,fun a e => (h.ss a e).fx f,h.d12,h.d13,h.d23⟩
theorem AM.rng (h : AM te ts lim w ov nv lv An As out nx lt Ln Ls) {x : Nat} (hx : ow3 ov nv lv x) : lim ≤ x ∧ x < w.heap.size:=by
 obtain ⟨v1,a1,_⟩:=h.own1
 obtain ⟨v2,a2,_⟩:=h.own2
 obtain ⟨v3,a3,_⟩:=h.own3
 rcases hx with hx | hx | hx
 · exact ⟨own_ge a1 hx,own_lt2 a1 hx⟩
 · exact ⟨own_ge a2 hx,own_lt2 a2 hx⟩
 · exact ⟨own_ge a3 hx,own_lt2 a3 hx⟩
theorem AM.tell (h : AM te ts lim w ov nv lv An As out nx lt Ln Ls) : ∃ vs,w.ownsRow lim te 1 ov out.length vs ∧ ∀ w1 ov' v l,Kept ov.ownBlock.toList w w1 → w1.ownsRow lim te 1 ov' (out.length + 1) (vs ++ [v]) →
   (∀ g,ov'.ownBlock = some g → ov.ownBlock = some g ∨ g = w.heap.size) → Vl (ow3 ov nv lv) w v l → AM te ts lim w1 ov' nv lv An As (out ++ [l]) nx lt Ln Ls:=by
 obtain ⟨v1,a1,b1⟩:=h.own1
 refine ⟨v1,a1,fun w1 ov' v l hk hown hg hv => ?_⟩
 obtain ⟨v2,a2,b2⟩:=h.own2
 obtain ⟨v3,a3,b3⟩:=h.own3
 obtain ⟨v4,a4,b4⟩:=h.now
 obtain ⟨v5,a5,b5⟩:=h.sts
 have f : Fx (ow3 ov nv lv) (ow3 ov' nv lv) w w1:=.of hk (fun x hx => .inl (.inl (by simpa using hx))) (fun x hx => by
   rcases hx with hx | hx | hx
   · rcases hg x hx with h9 | h9
     · exact .inl (.inl h9)
     · exact .inr (by omega)
   · exact .inl (.inr (.inl hx))
   · exact .inl (.inr (.inr hx)))
 refine ⟨⟨_,by rw [List.length_append];exact hown,(b1.fx f).snoc (hv.fx f)⟩,⟨v2,own_keptT a2 hk (fun g hg2 hm => h.d12 g (by simpa using hm) hg2),b2.fx f⟩,⟨v3,own_keptT a3 hk (fun g hg2 hm => h.d13 g (by simpa using hm) hg2),b3.fx f⟩,⟨v4,rd_fx a4 h.sn f,b4.fx f⟩,⟨v5,rd_fx a5 h.ss f,b5.fx f⟩,fun a e => (h.sn a e).fx f,fun a e => (h.ss a e).fx f,fun x hx => ?_,fun x hx => ?_,h.d23⟩
 · rcases hg x hx with h9 | h9
   · exact h.d12 x h9
   · intro h8;have:=own_lt2 a2 h8;omega
 · rcases hg x hx with h9 | h9
   · exact h.d13 x h9
   · intro h8;have:=own_lt2 a3 h8;omega
theorem AM.find (h : AM te ts lim w ov nv lv An As out nx lt Ln Ls) : ∃ vs,w.ownsRow lim te 1 nv nx.length vs ∧ ∀ w0 w1 nv' v l,Kept [] w w0 → Kept nv.ownBlock.toList w0 w1 → w1.ownsRow lim te 1 nv' (nx.length + 1) (vs ++ [v]) →
   (∀ g,nv'.ownBlock = some g → nv.ownBlock = some g ∨ g = w0.heap.size) → Vl (ow3 ov nv lv) w0 v l → AM te ts lim w1 ov nv' lv An As out (nx ++ [l]) lt Ln Ls:=by
 obtain ⟨v2,a2,b2⟩:=h.own2
 refine ⟨v2,a2,fun w0 w1 nv' v l hk0 hk hown hg hv => ?_⟩
 have f0 : Fx (ow3 ov nv lv) (ow3 ov nv lv) w w0:=.same hk0
 have h0:=h.kept hk0
 obtain ⟨v1,a1,b1⟩:=h0.own1
 obtain ⟨v3,a3,b3⟩:=h0.own3
 obtain ⟨v4,a4,b4⟩:=h0.now
 obtain ⟨v5,a5,b5⟩:=h0.sts
 have f : Fx (ow3 ov nv lv) (ow3 ov nv' lv) w0 w1:=.of hk (fun x hx => .inl (.inr (.inl (by simpa using hx)))) (fun x hx => by
   rcases hx with hx | hx | hx
   · exact .inl (.inl hx)
   · rcases hg x hx with h9 | h9
     · exact .inl (.inr (.inl h9))
     · exact .inr (by omega)
   · exact .inl (.inr (.inr hx)))
 refine ⟨⟨v1,own_keptT a1 hk (fun g hg2 hm => h.d12 g hg2 (by simpa using hm)),b1.fx f⟩,⟨_,by rw [List.length_append];exact hown,((b2.fx f0).fx f).snoc (hv.fx f)⟩,⟨v3,own_keptT a3 hk (fun g hg2 hm => h.d23 g (by simpa using hm) hg2),b3.fx f⟩,⟨v4,rd_fx a4 h0.sn f,b4.fx f⟩,⟨v5,rd_fx a5 h0.ss f,b5.fx f⟩,fun a e => (h0.sn a e).fx f,fun a e => (h0.ss a e).fx f,fun x hx hx2 => ?_,h.d13,fun x hx => ?_⟩
 · rcases hg x hx2 with h9 | h9
   · exact h.d12 x hx h9
   · have:=own_lt2 a1 hx;omega
 · rcases hg x hx with h9 | h9
   · exact h.d23 x h9
   · intro h8;have:=own_lt2 a3 h8;omega
theorem AM.findS (h : AM te ts lim w ov nv lv An As out nx lt Ln Ls) : ∃ vs,w.ownsRow lim ts 2 lv lt.length vs ∧ ∀ w0 w1 lv' a v cs,Kept [] w w0 → Kept lv.ownBlock.toList w0 w1 → w1.ownsRow lim ts 2 lv' (lt.length + 1) (vs ++ [.int .i64 a,v]) →
   (∀ g,lv'.ownBlock = some g → lv.ownBlock = some g ∨ g = w0.heap.size) → Vl (ow3 ov nv lv) w0 v cs.reverse → AM te ts lim w1 ov nv lv' An As out nx (lt ++ [(a,cs)]) Ln Ls:=by
 obtain ⟨v3,a3,b3⟩:=h.own3
 refine ⟨v3,a3,fun w0 w1 lv' a v cs hk0 hk hown hg hv => ?_⟩
 have f0 : Fx (ow3 ov nv lv) (ow3 ov nv lv) w w0:=.same hk0
 have h0:=h.kept hk0
 obtain ⟨v1,a1,b1⟩:=h0.own1
 obtain ⟨v2,a2,b2⟩:=h0.own2
 obtain ⟨v4,a4,b4⟩:=h0.now
 obtain ⟨v5,a5,b5⟩:=h0.sts
 have f : Fx (ow3 ov nv lv) (ow3 ov nv lv') w0 w1:=.of hk (fun x hx => .inl (.inr (.inr (by simpa using hx)))) (fun x hx => by
   rcases hx with hx | hx | hx
   · exact .inl (.inl hx)
   · exact .inl (.inr (.inl hx))
   · rcases hg x hx with h9 | h9
     · exact .inl (.inr (.inr h9))
     · exact .inr (by omega))
 refine ⟨⟨v1,own_keptT a1 hk (fun g hg2 hm => h.d13 g hg2 (by simpa using hm)),b1.fx f⟩,⟨v2,own_keptT a2 hk (fun g hg2 hm => h.d23 g hg2 (by simpa using hm)),b2.fx f⟩,⟨_,by rw [List.length_append];exact hown,((b3.fx f0).fx f).snoc (hv.fx f)⟩,⟨v4,rd_fx a4 h0.sn f,b4.fx f⟩,⟨v5,rd_fx a5 h0.ss f,b5.fx f⟩,fun a e => (h0.sn a e).fx f,fun a e => (h0.ss a e).fx f,h.d12,fun x hx hx2 => ?_,fun x hx hx2 => ?_⟩
 · rcases hg x hx2 with h9 | h9
   · exact h.d13 x hx h9
   · have:=own_lt2 a1 hx;omega
 · rcases hg x hx2 with h9 | h9
   · exact h.d23 x hx h9
   · have:=own_lt2 a2 hx;omega
theorem own_slice2 {base : Nat} {e : TypeId} {k n : Nat} {v : Value} {xs : List Value} (h : w.ownsRow base e k v n xs) : ∃ A c,v = .slice A n c ∧ Rd w k A n xs ∧ (A = none → n = 0) ∧ ∀ a,A = some a → v.ownBlock = some a.block:=by
 rcases h.2 with ⟨rfl,rfl⟩ | ⟨g,cap,cur,rfl,_⟩
 · exact ⟨none,0,rfl,⟨h.1,fun h => absurd h (by omega)⟩,fun _ => rfl,fun a e => by cases e⟩
 · refine ⟨some ⟨g,0,none⟩,cap,rfl,⟨h.1,fun hn => ?_⟩,fun e => (by cases e),fun a e => (by injection e with e;subst e;rfl)⟩
   obtain ⟨g',c',hv,_,hl,_,_,hc,_⟩:=own_cellsT h hn
   injection hv with e1 e2 e3
   injection e1 with e1
   injection e1 with e1 _ _
   subst e1
   exact ⟨g,0,rfl,hl,fun j hj => by rw [Nat.zero_add];exact hc j hj⟩
theorem AM.turn (h : AM te ts lim w ov nv lv An As out nx lt Ln Ls) : ∃ Bn cn Bs cs,nv = .slice Bn nx.length cn ∧ lv = .slice Bs lt.length cs ∧ AM te ts lim w ov (.slice none 0 0) (.slice none 0 0) Bn Bs out [] [] nx lt:=by
 obtain ⟨v1,a1,b1⟩:=h.own1
 obtain ⟨v2,a2,b2⟩:=h.own2
 obtain ⟨v3,a3,b3⟩:=h.own3
 obtain ⟨Bn,cn,e2,r2,_,o2⟩:=own_slice2 a2
 obtain ⟨Bs,cs,e3,r3,_,o3⟩:=own_slice2 a3
 have f : Fx (ow3 ov nv lv) (ow3 ov (.slice none 0 0) (.slice none 0 0)) w w:=.of (Kept.refl [] w) (by simp) (fun x hx => by
   rcases hx with hx | hx | hx
   · exact .inl (.inl hx)
   · cases hx
   · cases hx)
 refine ⟨Bn,cn,Bs,cs,e2,e3,⟨⟨v1,a1,b1.fx f⟩,⟨[],World.ownsRow_nil _ _ _ _,VlS.nil _ _⟩,⟨[],World.ownsRow_nil _ _ _ _,Cs.nil _ _⟩,⟨v2,r2,b2.fx f⟩,⟨v3,r3,b3.fx f⟩,fun a e => ?_,fun a e => ?_,fun x _ h9 => by (cases h9),fun x _ h9 => by (cases h9),fun x h9 => by (cases h9)⟩⟩
 · have h8:=o2 a e
   refine ⟨own_lt2 a2 h8,fun h9 => ?_⟩
   rcases h9 with h9 | h9 | h9
   · exact h.d12 _ h9 h8
   · cases h9
   · cases h9
 · have h8:=o3 a e
   refine ⟨own_lt2 a3 h8,fun h9 => ?_⟩
   rcases h9 with h9 | h9 | h9
   · exact h.d13 _ h9 h8
   · cases h9
   · cases h9
theorem AM.row (h : AM te ts lim w ov nv lv An As out nx lt Ln Ls) {i : Nat} {l : List Int} (hi : Ln[i]? = some l) : ∃ b o A n c,An = some ⟨b,o,none⟩ ∧ SafeB (ow3 ov nv lv) w b ∧ w.cell? ⟨b,o + i,none⟩ = some (.slice A n c) ∧ SInP (ow3 ov nv lv) w A n c l:=by
 obtain ⟨vs,hr,hv⟩:=h.now
 have hil : i < Ln.length:=by
   rcases Nat.lt_or_ge i Ln.length with h9 | h9
   · exact h9
   · rw [List.getElem?_eq_none h9] at hi;cases hi
 obtain ⟨b,o,e,hl,hc⟩:=hr.2 (by omega)
 obtain ⟨v,h1,A,n,c,rfl,h2⟩:=hv.2 i l hi
 exact ⟨b,o,A,n,c,e,h.sn _ e,(hc i (by omega)).trans h1,h2⟩
theorem AM.st (h : AM te ts lim w ov nv lv An As out nx lt Ln Ls) {i : Nat} {x : Int × List Int} (hi : Ls[i]? = some x) : ∃ b o A n c,As = some ⟨b,o,none⟩ ∧ SafeB (ow3 ov nv lv) w b ∧ w.cell? ⟨b,o + i * 2,none⟩ = some (.int .i64 x.1) ∧ w.cell? ⟨b,o + i * 2 + 1,none⟩ = some (.slice A n c) ∧ SInP (ow3 ov nv lv) w A n c x.2.reverse:=by
 obtain ⟨vs,hr,hv⟩:=h.sts
 have hil : i < Ls.length:=by
   rcases Nat.lt_or_ge i Ls.length with h9 | h9
   · exact h9
   · rw [List.getElem?_eq_none h9] at hi;cases hi
 obtain ⟨b,o,e,hl,hc⟩:=hr.2 (by omega)
 obtain ⟨h0,v,h1,A,n,c,rfl,h2⟩:=hv.2 i x hi
 exact ⟨b,o,A,n,c,e,h.ss _ e,(hc (i * 2) (by omega)).trans h0,by rw [Nat.add_assoc];exact (hc (i * 2 + 1) (by omega)).trans h1,h2⟩
theorem AM.start {b1 b2 : Nat} {a : Int} (h1 : Blk w b1 [.slice none 0 0]) (h2 : Blk w b2 [.int .i64 a,.slice none 0 0]) : AM te ts lim w (.slice none 0 0) (.slice none 0 0) (.slice none 0 0) (some ⟨b1,0,none⟩) (some ⟨b2,0,none⟩) [] [] [] [[]] [(a,[])]:=by
 refine ⟨⟨[],World.ownsRow_nil _ _ _ _,VlS.nil _ _⟩,⟨[],World.ownsRow_nil _ _ _ _,VlS.nil _ _⟩,⟨[],World.ownsRow_nil _ _ _ _,Cs.nil _ _⟩,⟨[.slice none 0 0],⟨rfl,fun _ => ⟨b1,0,rfl,h1.1,fun j _ => by rw [Nat.zero_add];exact h1.2.1 j⟩⟩,?_⟩,⟨[.int .i64 a,.slice none 0 0],⟨rfl,fun _ => ⟨b2,0,rfl,h2.1,fun j _ => by rw [Nat.zero_add];exact h2.2.1 j⟩⟩,?_⟩,fun x e => ?_,fun x e => ?_,fun x h9 => by (cases h9),fun x h9 => by (cases h9),fun x h9 => by (cases h9)⟩
 · exact (VlS.nil _ _).snoc ⟨none,0,0,rfl,SInP.none _ _⟩
 · exact (Cs.nil _ _).snoc ⟨none,0,0,rfl,SInP.none _ _⟩
 · injection e with e;subst e
   exact ⟨h1.1,fun h9 => by rcases h9 with h9 | h9 | h9 <;> cases h9⟩
 · injection e with e;subst e
   exact ⟨h2.1,fun h9 => by rcases h9 with h9 | h9 | h9 <;> cases h9⟩
theorem AM.told (h : AM te ts lim w ov nv lv An As out nx lt Ln Ls) : ∃ A c,ov = .slice A out.length c ∧ (A = none → out.length = 0) ∧ (0 < out.length → ∃ b o,A = some ⟨b,o,none⟩ ∧ lim ≤ b ∧ b < w.heap.size ∧ ∀ (i : Nat) (l : List Int),out[i]? = some l → ∃ Ai ni ci,w.cell? ⟨b,o + i,none⟩ = some (.slice Ai ni ci) ∧ SIn w Ai ni ci l):=by
 obtain ⟨vs,a1,b1⟩:=h.own1
 obtain ⟨A,c,e,r,hn,ho⟩:=own_slice2 a1
 refine ⟨A,c,e,hn,fun h0 => ?_⟩
 obtain ⟨b,o,e,hl,hc⟩:=r.2 h0
 refine ⟨b,o,e,own_ge a1 (ho _ e),hl,fun i l hi => ?_⟩
 have hil : i < out.length:=by
   rcases Nat.lt_or_ge i out.length with h9 | h9
   · exact h9
   · rw [List.getElem?_eq_none h9] at hi;cases hi
 obtain ⟨v,h1,Ai,ni,ci,rfl,h2⟩:=b1.2 i l hi
 exact ⟨Ai,ni,ci,(hc i (by omega)).trans h1,h2.sin⟩
end
end Go.Df
namespace Go.Proofs.YtincpmdldpakkaaGreatDoor
open Go.RowKit Go.Df
attribute [local go_sem ↓] Go.wp_at_zero Go.wp_at_succ
set_option maxRecDepth 100000 in
set_option maxHeartbeats 4000000 in
theorem rstep2_any (A1 A2 A : Option Addr) (n1 c1 n2 c2 n c : Nat) (mn at_ k : Int) (es : List Sp.Ed) (cs : List Int) (w : World) (he : Eds w A2 n2 es) (hs : n2 ≤ 1000000) (hp : SIn w A n c cs.reverse) (hn : n ≤ 1000000) :
   Calls Tryz.prog 42 #[.agg #[.slice A1 n1 c1,.slice A2 n2 c2,.int .i64 mn],.agg #[.int .i64 at_,.slice A n c],.int .i64 k] w fun e w' =>
     ∃ A' n' c',e = .returned (.tuple #[.agg #[.int .i64 (Sp.stepS es at_ cs k).2.1,.slice A' n' c'],.int .i64 (Sp.stepS es at_ cs k).1]) ∧ SIn w' A' n' c' (Sp.stepS es at_ cs k).2.2.reverse ∧ (∀ a,A' = some a → (∃ a0,A = some a0 ∧ a.block = a0.block) ∨ (w.heap.size ≤ a.block ∧ a.block < w'.heap.size)) ∧ Below w.heap.size w w':=by
 obtain ⟨i0,hi,hz0,hz1,hz2⟩:=info_parts int_info
 have mixed : Tryz.prog.follows Departure.mixedOrders = true:=by kernel_rfl
 have HE:=Lib.hid he
 have HL:=Lib.hid he.1
 have HP:=Lib.hid hp
 have HLc : Hid (cs.length = n):=by show _ = _;have:=hp.1.1;simpa using this
 have hnc:=hp.2.1
 have hcm:=hp.2.2.1
 clear he hp
 go_enter Tryz.func42,Tryz.ntmps42
 go_upto_region 1 with fail
 refine wp_named (fun W => ∃ b0 b1 b2,w.heap.size = b0 ∧ w.heap.size + 1 = b1 ∧ w.heap.size + 1 + 1 = b2 ∧ Blk W b0 [.slice A1 n1 c1,.slice A2 n2 c2,.int .i64 mn] ∧ Blk W b1 [.int .i64 at_,.slice A n c] ∧ Blk W b2 [.int .i64 0,.slice none 0 0] ∧ Below w.heap.size w W) ⟨_,_,_,rfl,rfl,rfl,?_,?_,?_,?_⟩ ?_
 · exact ((Blk.new _ _ _ _ (by first | rfl | simp)).alloc _).alloc _
 · exact (Blk.new _ _ _ _ (by first | rfl | simp)).alloc _
 · exact kbn
 · go_grown
 rintro W ⟨b0,b1,b2,e0,e1,e2,B0,B1,B2,hB⟩
 rw [e2,e1,e0]
 have G0 : w.heap.size ≤ b0:=by omega
 have n01 : b0 ≠ b1:=by omega
 have n02 : b0 ≠ b2:=by omega
 have G1 : w.heap.size ≤ b1:=by omega
 have n10 : b1 ≠ b0:=by omega
 have n12 : b1 ≠ b2:=by omega
 have G2 : w.heap.size ≤ b2:=by omega
 have n20 : b2 ≠ b0:=by omega
 have n21 : b2 ≠ b1:=by omega
 clear e0 e1 e2
 have ⟨L0,C0,F0⟩:=B0
 have ⟨L1,C1,F1⟩:=B1
 have ⟨L2,C2,F2⟩:=B2
 by_cases hra : k < 0
 · have d1 : decide (k < 0) = true:=by simpa using hra
   have HS : Hid (Sp.stepS es at_ cs k = (4,0,[])):=by
     show Sp.stepS es at_ cs k = _
     unfold Sp.stepS
     rw [HL.out,if_pos (by omega)]
   have hkX0 : Kept [b2] W W:=Kept.refl _ _
   go_wp2_with fail
   try simp only [Exit.inBlock,Exit.then]
   refine post_named (fun X => Blk X b2 [.int .i64 0,.slice none 0 0] ∧ Kept [b2] W X) ⟨?_,?_⟩ ?_
   · exact kbo
   · (repeat' first | (with_reducible assumption) | (with_reducible exact Kept.refl _ _) | (with_reducible refine Kept.alloc ?_ _) | (with_reducible refine Kept.call ?_ (by assumption)) | (with_reducible refine Kept.set ?_ _ _ _ (Or.inl (by simp))) | (with_reducible refine Kept.drew ?_) | (with_reducible refine Kept.drewN ?_ _) | (with_reducible exact hkX0))
   rintro X ⟨BX,hkX⟩
   have ⟨LX,CX,FX⟩:=BX
   have hBX:=hkX.below hB hB.size (by simp;omega)
   refine bodyPost_ret (by simp [results,Tryz.results42,go_sem,CX];try rfl) rfl ?_
   rw [HS.out]
   exact ⟨none,0,0,rfl,SIn.nil _,(fun a ha => by cases ha),hBX⟩
 have da : decide (k < 0) = false:=by simpa using hra
 by_cases hrb : (n2 : Int) ≤ k
 · have d1 : decide ((n2 : Int) ≤ k) = true:=by simpa using hrb
   have HS : Hid (Sp.stepS es at_ cs k = (4,0,[])):=by
     show Sp.stepS es at_ cs k = _
     unfold Sp.stepS
     rw [HL.out,if_pos (by omega)]
   have hkX0 : Kept [b2] W W:=Kept.refl _ _
   go_wp2_with fail
   try simp only [Exit.inBlock,Exit.then]
   refine post_named (fun X => Blk X b2 [.int .i64 0,.slice none 0 0] ∧ Kept [b2] W X) ⟨?_,?_⟩ ?_
   · exact kbo
   · (repeat' first | (with_reducible assumption) | (with_reducible exact Kept.refl _ _) | (with_reducible refine Kept.alloc ?_ _) | (with_reducible refine Kept.call ?_ (by assumption)) | (with_reducible refine Kept.set ?_ _ _ _ (Or.inl (by simp))) | (with_reducible refine Kept.drew ?_) | (with_reducible refine Kept.drewN ?_ _) | (with_reducible exact hkX0))
   rintro X ⟨BX,hkX⟩
   have ⟨LX,CX,FX⟩:=BX
   have hBX:=hkX.below hB hB.size (by simp;omega)
   refine bodyPost_ret (by simp [results,Tryz.results42,go_sem,CX];try rfl) rfl ?_
   rw [HS.out]
   exact ⟨none,0,0,rfl,SIn.nil _,(fun a ha => by cases ha),hBX⟩
 have db : decide ((n2 : Int) ≤ k) = false:=by simpa using hrb
 obtain ⟨x,rfl⟩:=Int.eq_ofNat_of_zero_le (show 0 ≤ k by omega)
 have hx : x < n2:=by omega
 obtain ⟨b,o,rfl,hl,hc⟩:=(HE.out.later hB).2 (by omega)
 obtain ⟨h1,h2,h3,h4⟩:=hc x hx
 clear hc
 obtain ⟨ea,eb,ek,ec,en⟩ : ∃ ea eb ek ec,ge es x = ⟨ea,eb,ek,ec⟩:=⟨_,_,_,_,rfl⟩
 rw [en] at h1 h2 h3 h4
 have HF : Hid (Sp.stepS es at_ cs x = if ea ≠ at_ then (16,0,[]) else if ek = 3 ∨ ek = 4 then (if cs = [] ∨ gi cs 0 ≠ ec then (20,0,[]) else (0,eb,cs.tail)) else if ek = 2 then (0,eb,at_ :: cs) else (0,eb,cs)):=by
   show Sp.stepS es at_ cs x = _
   unfold Sp.stepS
   rw [HL.out,if_neg (by omega),Int.toNat_natCast,en]
 clear en
 go_upto_region 4 with fail
 refine wp_named (fun V => ∃ g,W.heap.size = g ∧ Blk V g [.int .i64 ea,.int .i64 eb,.int .i64 ek,.int .i64 ec] ∧ Kept [] W V) ⟨_,rfl,Blk.new _ _ _ _ rfl,(Kept.refl _ _).alloc _⟩ ?_
 rintro V ⟨g,eg,Bg,hkV⟩
 rw [eg]
 have ⟨LG,CG,FG⟩:=Bg
 have BV0:=hkV.blk (by simp) B0
 have ⟨LV0,CV0,FV0⟩:=BV0
 have BV1:=hkV.blk (by simp) B1
 have ⟨LV1,CV1,FV1⟩:=BV1
 have BV2:=hkV.blk (by simp) B2
 have ⟨LV2,CV2,FV2⟩:=BV2
 have g2 : g ≠ b2:=by omega
 have g1 : g ≠ b1:=by omega
 have hBV:=hkV.below hB hB.size (by simp)
 have SV:=Lib.hid (HP.out.later hBV)
 clear C0 F0 C1 F1 C2 F2 h1 h2 h3 h4 eg
 have hkX0 : Kept [b2] W V:=(Kept.refl _ _).next hkV (by simp)
 by_cases ha : ea = at_
 case neg =>
   have ha' : (ea != at_) = true:=by simpa using ha
   have HS:=Lib.hid (HF.out.trans (if_pos ha))
   clear ha
   go_wp2_with fail
   try simp only [Exit.inBlock,Exit.then]
   refine post_named (fun X => Blk X b2 [.int .i64 0,.slice none 0 0] ∧ Kept [b2] W X) ⟨?_,?_⟩ ?_
   · exact kbo
   · (repeat' first | (with_reducible assumption) | (with_reducible exact Kept.refl _ _) | (with_reducible refine Kept.alloc ?_ _) | (with_reducible refine Kept.call ?_ (by assumption)) | (with_reducible refine Kept.set ?_ _ _ _ (Or.inl (by simp))) | (with_reducible refine Kept.drew ?_) | (with_reducible refine Kept.drewN ?_ _) | (with_reducible exact hkX0))
   rintro X ⟨BX,hkX⟩
   have ⟨LX,CX,FX⟩:=BX
   have hBX:=hkX.below hB hB.size (by simp;omega)
   refine bodyPost_ret (by simp [results,Tryz.results42,go_sem,CX];try rfl) rfl ?_
   rw [HS.out]
   exact ⟨none,0,0,rfl,SIn.nil _,(fun a ha => by cases ha),hBX⟩
 have ha' : (ea != at_) = false:=by simpa using ha
 have HF2:=Lib.hid (HF.out.trans (if_neg (not_not_intro ha)))
 have HA:=Lib.hid ha
 clear ha HF
 by_cases h2 : ek = 2
 · have t2 : (ek == 2) = true:=by simpa using h2
   have HS:=Lib.hid (HF2.out.trans ((if_neg (by omega)).trans (if_pos h2)))
   clear h2 HF2
   have hinit : SX1 V b2 2 V.drew:=SX1.init BV2
   have hrefl : SX1 V b2 2 V:=SX1.refl BV2
   go_upto_region 8 with fail
   go_cut [7] (fun s wx => s = .int .i64 0 ∧ ∃ (A6 : Option Addr) (c6 : Nat),Blk wx b2 [.int .i64 eb,.slice A6 (n + 1) c6] ∧ wx.ownsRow V.heap.size 3 1 (.slice A6 (n + 1) c6) (n + 1) ((ea :: cs).reverse.map (Value.int .i64)) ∧ Kept [b2] V wx)
   case first =>
     go_region_held3 (fun w' => SX1 V b2 2 w') (repeat' first | (with_reducible assumption) | (with_reducible exact SX1.init BV2) | (with_reducible exact SX1.refl BV2) | (with_reducible refine SX1.alloc ?_ _) | (with_reducible refine SX1.call ?_ (by assumption)) | (with_reducible refine SX1.set ?_ _ _) | (with_reducible refine SX1.setNew ?_ _ _ _ ?_ ?_) | (with_reducible refine SX1.drew ?_) | (simp;done) | omega | (simp;omega))
       (first | (refine step_append_rd _ rfl (.tmp 37) (.tmp 39) 30 rfl V.heap.size 3 i0 (.int .i64 0) 1 8 Tryz.underlying30 hi hz0 hz1 hz2 rfl (by decide) (.slice (some ⟨_,0,none⟩) 0 0) 0 [] rfl (by first | exact own_new0 _ _ _ _ (by first | rfl | simp) (by first | (simp;done) | (simp;omega)) | exact own_alloc (own_new0 _ _ _ _ (by first | rfl | simp) (by first | (simp;done) | (simp;omega))) _) A n c (cs.reverse.map (Value.int .i64)) rfl ((Rd.ints SV.out.1).kept (by (exact kpt0))) SV.out.2.2.2 (ints_one _) n (by omega) (cs.reverse.map (Value.int .i64)) rfl (by unfold maxLen;omega) (by omega) (by first | (simp;done) | (simp;omega) | omega) ?_;intro A5 c5 w5 hown5 hk5 hat5;have hs5 : SX1 V b2 2 w5:=SX1.fresh (by (repeat' first | (with_reducible assumption) | (with_reducible exact SX1.init BV2) | (with_reducible exact SX1.refl BV2) | (with_reducible refine SX1.alloc ?_ _) | (with_reducible refine SX1.call ?_ (by assumption)) | (with_reducible refine SX1.set ?_ _ _) | (with_reducible refine SX1.setNew ?_ _ _ _ ?_ ?_) | (with_reducible refine SX1.drew ?_) | (simp;done) | omega | (simp;omega))) hk5 (by simp [Value.ownBlock]) LV2;have hkk5 : Kept [] V w5:=kept_fresh (by (exact kpt0)) hk5 (by simp [Value.ownBlock]);have ho5:=own_rng hown5) | (refine step_append_rd _ rfl (.tmp 40) (.tmp 43) 30 rfl V.heap.size 3 i0 (.int .i64 0) 1 8 Tryz.underlying30 hi hz0 hz1 hz2 rfl (by decide) (.slice A5 n c5) n (cs.reverse.map (Value.int .i64)) rfl (by first | exact hown5 | exact own_alloc hown5 _) _ 1 1 [.int .i64 ea] rfl (by (repeat' first | (with_reducible refine Rd.drew ?_) | (with_reducible refine Rd.keptX ?_ hk5 ?_) | ((with_reducible refine Rd.new1 _ _ _ _ ?_);simp;done) | (with_reducible refine Rd.alloc ?_ _) | (simp [Value.ownBlock];done))) (fun h => by cases h) (by intro u hu;simp at hu;subst hu;rfl) (n + 1) rfl ((ea :: cs).reverse.map (Value.int .i64)) (by simp) (by unfold maxLen;omega) (by omega) (by have:=hkk5.size;first | (simp;done) | (simp;omega) | omega) ?_;intro A6 c6 w6 hown6 hk6 hat6;have hs6 : SX1 V b2 2 w6:=SX1.fresh (by (repeat' first | (with_reducible assumption) | (with_reducible exact SX1.init BV2) | (with_reducible exact SX1.refl BV2) | (with_reducible refine SX1.alloc ?_ _) | (with_reducible refine SX1.call ?_ (by assumption)) | (with_reducible refine SX1.set ?_ _ _) | (with_reducible refine SX1.setNew ?_ _ _ _ ?_ ?_) | (with_reducible refine SX1.drew ?_) | (simp;done) | omega | (simp;omega))) hk6 (fun y hy => (ho5.out y (by simpa using hy)).1) LV2;have hkk6 : Kept [] V w6:=kept_fresh (by (exact kpt0)) hk6 (fun y hy => (ho5.out y (by simpa using hy)).1);have ho6:=own_rng hown6;have hn6 : BlkN w6 b2 2:=hs6.blk))
     all_goals
       go_wp2_with fail
       go_meet
       refine ⟨rfl,A6,c6,?_,?_,?_⟩
       · exact kbo
       · repeat' first | (with_reducible assumption) | (with_reducible refine own_alloc ?_ _) | (with_reducible refine own_drew ?_) | (with_reducible refine own_set ?_ _ _ _ ?_) | (intro g hg;have:=(ho6.out g hg);omega)
       · have hkz : Kept [b2] V w6:=(Kept.refl _ _).next hkk6 (by simp)
         (repeat' first | (with_reducible assumption) | (with_reducible exact Kept.refl _ _) | (with_reducible refine Kept.alloc ?_ _) | (with_reducible refine Kept.call ?_ (by assumption)) | (with_reducible refine Kept.set ?_ _ _ _ (Or.inl (by simp))) | (with_reducible refine Kept.drew ?_) | (with_reducible refine Kept.drewN ?_ _) | (with_reducible exact hkX0))
   case rest =>
     obtain ⟨rfl,A6,c6,BX6,own6,hk6⟩:=hcut
     obtain ⟨A',c',hv',hin,hge⟩:=SIn.of_own own6
     injection hv' with e1 e2 e3
     subst e1
     subst e3
     have HIN:=Lib.hid hin
     have HGE:=Lib.hid hge
     have hkW6 : Kept [b2] W wc:=hkX0.next hk6 (by simp)
     clear hin own6 hge
     go_wp2_with fail
     try simp only [Exit.inBlock,Exit.then]
     have ⟨LX,CX,FX⟩:=BX6
     have hBX:=hkW6.below hB hB.size (by simp;omega)
     refine bodyPost_ret (by simp [results,Tryz.results42,go_sem,CX];try rfl) rfl ?_
     rw [HS.out]
     refine ⟨A6,n + 1,c6,rfl,?_,(fun a ha => .inr ⟨by have:=(HGE.out a ha).1;have:=hBV.size;omega,(HGE.out a ha).2⟩),hBX⟩
     have:=HIN.out
     rw [show ea = at_ from HA.out] at this
     exact this
 have t2 : (ek == 2) = false:=by simpa using h2
 have HF3 : Hid (Sp.stepS es at_ cs x = if ek = 3 ∨ ek = 4 then (if cs = [] ∨ gi cs 0 ≠ ec then (20,0,[]) else (0,eb,cs.tail)) else (0,eb,cs)):=by
   show _ = _
   rw [HF2.out,if_neg h2]
 clear h2 HF2
 by_cases hr : ek = 3 ∨ ek = 4
 case neg =>
   have t3 : (ek == 3) = false:=by simp;omega
   have t4 : (ek == 4) = false:=by simp;omega
   have HS:=Lib.hid (HF3.out.trans (if_neg hr))
   clear hr HF3
   go_wp2_with fail
   try simp only [Exit.inBlock,Exit.then]
   refine post_named (fun X => Blk X b2 [.int .i64 eb,.slice A n c] ∧ Kept [b2] W X) ⟨?_,?_⟩ ?_
   · exact kbo
   · (repeat' first | (with_reducible assumption) | (with_reducible exact Kept.refl _ _) | (with_reducible refine Kept.alloc ?_ _) | (with_reducible refine Kept.call ?_ (by assumption)) | (with_reducible refine Kept.set ?_ _ _ _ (Or.inl (by simp))) | (with_reducible refine Kept.drew ?_) | (with_reducible refine Kept.drewN ?_ _) | (with_reducible exact hkX0))
   rintro X ⟨BX,hkX⟩
   have ⟨LX,CX,FX⟩:=BX
   have hBX:=hkX.below hB hB.size (by simp;omega)
   refine bodyPost_ret (by simp [results,Tryz.results42,go_sem,CX];try rfl) rfl ?_
   rw [HS.out]
   exact ⟨A,n,c,rfl,HP.out.later hBX,(fun a ha => .inl ⟨a,ha,rfl⟩),hBX⟩
 have HF4:=Lib.hid (HF3.out.trans (if_pos hr))
 have hr' : (ek == 3) = true ∨ ((ek == 3) = false ∧ (ek == 4) = true):=by
   rcases hr with rfl | rfl
   · exact .inl rfl
   · exact .inr ⟨rfl,rfl⟩
 clear hr HF3
 by_cases hn0 : n = 0
 · have z1 : ((n : Int) == 0) = true:=by simp;omega
   have z2 : (n == 0) = true:=by simp;omega
   have HS:=Lib.hid (HF4.out.trans (if_pos (Or.inl (List.length_eq_zero_iff.mp (by rw [HLc.out];exact hn0)))))
   have HN0:=Lib.hid hn0
   clear hn0
   rcases hr' with t3 | ⟨t3,t4⟩
   all_goals
     go_upto_region 12 with fail
     go_quiet (fail)
     go_wp2_with fail
     try simp only [Exit.inBlock,Exit.then]
     refine post_named (fun X => Blk X b2 [.int .i64 0,.slice none 0 0] ∧ Kept [b2] W X) ⟨?_,?_⟩ ?_
     · exact kbo
     · (repeat' first | (with_reducible assumption) | (with_reducible exact Kept.refl _ _) | (with_reducible refine Kept.alloc ?_ _) | (with_reducible refine Kept.call ?_ (by assumption)) | (with_reducible refine Kept.set ?_ _ _ _ (Or.inl (by simp))) | (with_reducible refine Kept.drew ?_) | (with_reducible refine Kept.drewN ?_ _) | (with_reducible exact hkX0))
     rintro X ⟨BX,hkX⟩
     have ⟨LX,CX,FX⟩:=BX
     have hBX:=hkX.below hB hB.size (by simp;omega)
     refine bodyPost_ret (by simp [results,Tryz.results42,go_sem,CX];try rfl) rfl ?_
     rw [HS.out]
     exact ⟨none,0,0,rfl,SIn.nil _,(fun a ha => by cases ha),hBX⟩
 obtain ⟨c0,r,hcs⟩ : ∃ c0 r,cs = c0 :: r:=by
   cases cs with
   | nil => exact absurd HLc.out (by simp;omega)
   | cons c0 r => exact ⟨c0,r,rfl⟩
 have HCS:=Lib.hid hcs
 clear hcs
 obtain ⟨sb,so,rfl,hsl,hsc⟩:=SV.out.1.2 (by omega)
 have sc:=hsc (n - 1) (by omega)
 rw [show gi cs.reverse (n - 1) = c0 by rw [gi_rev (by rw [HLc.out];omega),HLc.out,show n - 1 - (n - 1) = 0 by omega,HCS.out];rfl] at sc
 have z1 : ((n : Int) == 0) = false:=by simp;omega
 have z2 : (n == 0) = false:=by simp;omega
 have z3 : IntKind.i64.wrap ((n : Int) - 1) = (n : Int) - 1:=IntWalk.i64_in _ (by omega)
 have z4 : (0 : Int) ≤ (n : Int) - 1:=by omega
 have z5 : ((n : Int) - 1).toNat = n - 1:=by omega
 have z6 : (n : Int) - 1 < (n : Int):=by omega
 have z7 : 1 ≤ n:=by omega
 have z8 : (1 : Int) ≤ (n : Int):=by omega
 have z9 : (n : Int) - 1 ≤ (c : Int):=by omega
 have z10 : n - 1 < n:=by omega
 have z11 : (n : Int) ≤ (c : Int) + 1:=by omega
 have z12 : n ≤ c + 1:=by omega
 have z14 : n ≠ 0:=by omega
 have z16 : 0 < n:=by omega
 clear hsc hn0
 by_cases hcc : c0 = ec
 case neg =>
   have y1 : (c0 != ec) = true:=by simpa using hcc
   have HS:=Lib.hid (HF4.out.trans (if_pos (Or.inr (by rw [HCS.out];exact hcc))))
   clear hcc
   rcases hr' with t3 | ⟨t3,t4⟩
   all_goals
     go_upto_region 12 with fail
     go_quiet (fail)
     go_wp2_with fail
     try simp only [Exit.inBlock,Exit.then]
     refine post_named (fun X => Blk X b2 [.int .i64 0,.slice none 0 0] ∧ Kept [b2] W X) ⟨?_,?_⟩ ?_
     · exact kbo
     · (repeat' first | (with_reducible assumption) | (with_reducible exact Kept.refl _ _) | (with_reducible refine Kept.alloc ?_ _) | (with_reducible refine Kept.call ?_ (by assumption)) | (with_reducible refine Kept.set ?_ _ _ _ (Or.inl (by simp))) | (with_reducible refine Kept.drew ?_) | (with_reducible refine Kept.drewN ?_ _) | (with_reducible exact hkX0))
     rintro X ⟨BX,hkX⟩
     have ⟨LX,CX,FX⟩:=BX
     have hBX:=hkX.below hB hB.size (by simp;omega)
     refine bodyPost_ret (by simp [results,Tryz.results42,go_sem,CX];try rfl) rfl ?_
     rw [HS.out]
     exact ⟨none,0,0,rfl,SIn.nil _,(fun a ha => by cases ha),hBX⟩
 have y1 : (c0 != ec) = false:=by simpa using hcc
 have HS : Hid (Sp.stepS es at_ cs x = (0,eb,r)):=by
   show _ = _
   rw [HF4.out,HCS.out,if_neg (fun hh => by rcases hh with hh | hh;cases hh;exact hh (show gi (c0 :: r) 0 = ec from hcc))]
   rfl
 have HT : Hid (cs.reverse.take (n - 1) = r.reverse):=by
   show _ = _
   have:=HLc.out
   rw [HCS.out] at this ⊢
   simp only [List.length_cons] at this
   rw [List.reverse_cons,List.take_append_of_le_length (by simp;omega),List.take_of_length_le (by simp;omega)]
 clear hcc
 rcases hr' with t3 | ⟨t3,t4⟩
 all_goals
   go_upto_region 12 with fail
   go_quiet (fail)
   go_upto_region 14 with fail
   refine wp_named (fun U => Kept [] V U) ((Kept.refl _ _).drewN _) ?_
   intro U hkU
   have hkXU : Kept [b2] W U:=hkX0.next hkU (by simp)
   have ⟨p0,p1,p2⟩:=hkU.blk (by simp) Bg
   have ⟨p3,p4,p5⟩:=hkU.blk (by simp) BV1
   have BU2:=hkU.blk (by simp) BV2
   have ⟨p6,p7,p8⟩:=BU2
   clear CG FG CV0 FV0 CV1 FV1 CV2 FV2 sc
   go_region_o
   go_wp2_with fail
   try simp only [Exit.inBlock,Exit.then]
   refine post_named (fun X => Blk X b2 [.int .i64 eb,.slice (some ⟨sb,so,none⟩) (n - 1) c] ∧ Kept [b2] W X) ⟨?_,?_⟩ ?_
   · exact kbo
   · (repeat' first | (with_reducible assumption) | (with_reducible exact Kept.refl _ _) | (with_reducible refine Kept.alloc ?_ _) | (with_reducible refine Kept.call ?_ (by assumption)) | (with_reducible refine Kept.set ?_ _ _ _ (Or.inl (by simp))) | (with_reducible refine Kept.drew ?_) | (with_reducible refine Kept.drewN ?_ _) | (with_reducible exact hkX0))
   rintro X ⟨BX,hkX⟩
   have ⟨LX,CX,FX⟩:=BX
   have hBX:=hkX.below hB hB.size (by simp;omega)
   refine bodyPost_ret (by simp [results,Tryz.results42,go_sem,CX];try rfl) rfl ?_
   rw [HS.out]
   refine ⟨some ⟨sb,so,none⟩,n - 1,c,rfl,?_,(fun a ha => .inl (by first | exact ⟨a,ha,rfl⟩ | (cases ha;rfl) | (cases ha;simp))),hBX⟩
   have:=(HP.out.later hBX).front (show n - 1 ≤ n by omega)
   rw [HT.out] at this
   exact this
end Go.Proofs.YtincpmdldpakkaaGreatDoor
