/- Texts: Bk Bl Bm. -/
import Derived.Test.YtincpmdldpakkaaGreatDoorMt23
namespace Go.Df.Iv
open Go Go.RowKit Go.Df.Sp
def bump (k : Nat → Nat) (i : Nat) : Nat → Nat:=fun j => if j = i then k j + 1 else k j
def St.setT (s : St) (n a d : Nat) (y : D) : St:=⟨s.put n a d y,s.ls,s.V,s.pd,s.q,bump s.k 0⟩
def St.addL (s : St) (i n a x : Nat) : St:=⟨s.T,fun i' n' a' => if i' = i ∧ n' = n ∧ a' = a then s.ls i n a ++ [x] else s.ls i' n' a',s.V,s.pd,s.q,bump s.k i⟩
def St.setV (s : St) (n a : Nat) (v : U) : St:=⟨s.T,s.ls,fun n' a' => if n' = n ∧ a' = a then v else s.V n' a',s.pd,s.q,bump s.k 3⟩
def St.setP (s : St) (n : Nat) (l : List (Nat × Nat)) : St:=⟨s.T,s.ls,s.V,fun n' => if n' = n then l else s.pd n',s.q,bump s.k 4⟩
def St.setQ (s : St) (q : List Nat) : St:=⟨s.T,s.ls,s.V,s.pd,q,s.k⟩
theorem inc_old {s : St} {n a d : Nat} {x : D} (h : meet (s.T n a d) x ≠ s.T n a d) (h0 : s.T n a d ≠ top) (q : List Nat) (hq : q = if s.pd n = [] then s.q ++ [n] else s.q) :
   s.inc n a d x = ((s.setT n a d (meet (s.T n a d) x)).setQ q).setP n (s.pd n ++ [(a,d)]):=by
 subst hq
 unfold St.inc St.setT St.setQ St.setP St.lst
 rw [if_neg h]
 congr 1
 · funext i n' a'
   rw [if_neg h0]
 · funext i
   unfold bump
   rw [if_neg h0]
   by_cases e1 : i = 1 ∨ i = 2
   · rw [if_pos e1]
     rcases e1 with rfl | rfl <;> simp
   · rw [if_neg e1]
     by_cases e2 : i = 0
     · subst e2;simp
     · by_cases e3 : i = 4
       · subst e3;simp
       · simp [e2,e3]
theorem inc_new {s : St} {n a d : Nat} {x : D} (h : meet (s.T n a d) x ≠ s.T n a d) (h0 : s.T n a d = top) (q : List Nat) (hq : q = if s.pd n = [] then s.q ++ [n] else s.q) :
   s.inc n a d x = ((((s.addL 1 n a d).addL 2 n d a).setT n a d (meet (s.T n a d) x)).setQ q).setP n (s.pd n ++ [(a,d)]):=by
 subst hq
 unfold St.inc St.setT St.setQ St.setP St.lst St.addL St.put
 rw [if_neg h]
 congr 1
 · funext i n' a'
   rw [if_pos h0]
   dsimp only
   by_cases e1 : i = 1 ∧ n' = n ∧ a' = a
   · rw [if_pos e1,if_neg (by omega),if_pos e1]
   · rw [if_neg e1]
     by_cases e2 : i = 2 ∧ n' = n ∧ a' = d
     · rw [if_pos e2,if_pos e2,if_neg (by omega)]
     · rw [if_neg e2,if_neg e2,if_neg e1]
 · funext i
   unfold bump
   rw [if_pos h0]
   by_cases e1 : i = 1
   · subst e1;simp
   · by_cases e2 : i = 2
     · subst e2;simp
     · by_cases e3 : i = 0
       · subst e3;simp
       · by_cases e4 : i = 4
         · subst e4;simp
         · simp [e1,e2,e3,e4]
end Go.Df.Iv
namespace Go.Proofs.YtincpmdldpakkaaGreatDoor
open Go.RowKit Go.Df Go.Df.Iv Go.Df.Sp
def rowT (i : Nat) : TypeId:=if i = 0 then 84 else if i = 3 then 179 else 233
section
variable {p : Vb} {K : Kn} {w0 : World} {b : Nat} {O O' : Nat → Prop} {G : Gh} {w w' : World} {s : St}
theorem Mem.rtag (h : Mem p K w0 b O G w s) {i : Nat} (hi : i < 4) : Tag w (K.tr i) (rowT i):=by
 have h4 : i = 0 ∨ i = 1 ∨ i = 2 ∨ i = 3:=by omega
 rcases h4 with rfl | rfl | rfl | rfl
 · exact h.tj.rtag
 · exact (h.tw 1 (.inl rfl)).rtag
 · exact (h.tw 2 (.inr rfl)).rtag
 · exact h.tv.rtag
theorem Mem.mobj (h : Mem p K w0 b O G w s) {i n x : Nat} (hi : i < 4) (hn : n < K.n1) (hx : G.m i n = some x) : ∃ es clock,w.heap[x]? = some (.map es clock):=by
 have h4 : i = 0 ∨ i = 1 ∨ i = 2 ∨ i = 3:=by omega
 rcases h4 with rfl | rfl | rfl | rfl
 · exact (h.tj.is n x hn hx).obj
 · exact ((h.tw 1 (.inl rfl)).is n x hn hx).obj
 · exact ((h.tw 2 (.inr rfl)).is n x hn hx).obj
 · exact (h.tv.is n x hn hx).obj
theorem rowT_ne {i j : Nat} (hi : i < 4) (hj : j < 4) (h : i ≠ j) (h12 : ¬ ((i = 1 ∨ i = 2) ∧ (j = 1 ∨ j = 2))) : rowT i ≠ rowT j:=by
 have hi4 : i = 0 ∨ i = 1 ∨ i = 2 ∨ i = 3:=by omega
 have hj4 : j = 0 ∨ j = 1 ∨ j = 2 ∨ j = 3:=by omega
 rcases hi4 with rfl | rfl | rfl | rfl <;> rcases hj4 with rfl | rfl | rfl | rfl <;> first | (exact absurd rfl h) | (unfold rowT;decide) | (exact absurd ⟨by simp,by simp⟩ h12)
theorem Mem.trj (h : Mem p K w0 b O G w s) {i j : Nat} (hi : i < 4) (hj : j < 4) (hne : i ≠ j) : K.tr i ≠ K.tr j:=by
 by_cases h12 : (i = 1 ∨ i = 2) ∧ (j = 1 ∨ j = 2)
 · obtain ⟨h1,h2⟩:=h12
   rcases h1 with rfl | rfl <;> rcases h2 with rfl | rfl
   · exact absurd rfl hne
   · exact h.trne
   · exact h.trne.symm
   · exact absurd rfl hne
 · exact (h.rtag hi).ne (h.rtag hj) (rowT_ne hi hj hne h12)
def OwnL (G : Gh) (i n a : Nat) (L : List Nat) : Prop:=∀ y ∈ L,(i = 1 ∨ i = 2) ∧ (G.wv i n (.int .i64 (a : Nat))).ownBlock = some y
theorem Mem.ltag (h : Mem p K w0 b O G w s) {i n a y : Nat} {L : List Nat} (hL : OwnL G i n a L) (hn : n < K.n1) (hy : y ∈ L) : Tag w y 3:=own_tag (h.hw i n a (hL y hy).1 hn) (hL y hy).2
theorem Mem.nX (h : Mem p K w0 b O G w s) {i n y : Nat} {t : TypeId} {L : List Nat} (hi : i < 4) (hn : n < K.n1) (ht : Tag w y t) (hy : y ≠ K.tr i) (hL : y ∉ L) : y ∉ K.tr i :: ((G.m i n).toList ++ L):=by
 intro hm
 rcases List.mem_cons.1 hm with h1 | h1
 · exact hy h1
 · rcases List.mem_append.1 h1 with h2 | h2
   · have h3 : G.m i n = some y:=by simpa using h2
     exact ht.ne_map (h.mobj hi hn h3) rfl
   · exact hL h2
theorem Mem.nXt (h : Mem p K w0 b O G w s) {i n a y : Nat} {t : TypeId} {L : List Nat} (hi : i < 4) (hn : n < K.n1) (hL : OwnL G i n a L) (ht : Tag w y t) (h1 : t ≠ rowT i) (h2 : t ≠ 3) : y ∉ K.tr i :: ((G.m i n).toList ++ L) :=
 h.nX hi hn ht (ht.ne (h.rtag hi) h1) (fun hm => ht.ne (h.ltag hL hn hm) h2 rfl)
theorem Mem.nXm (h : Mem p K w0 b O G w s) {i n a j m y : Nat} {L : List Nat} (hi : i < 4) (hn : n < K.n1) (hj : j < 4) (hm : m < K.n1) (hL : OwnL G i n a L) (hy : G.m j m = some y) (hne : ¬ (j = i ∧ m = n)) : y ∉ K.tr i :: ((G.m i n).toList ++ L):=by
 intro hx
 rcases List.mem_cons.1 hx with h1 | h1
 · exact (h.rtag hi).ne_map (h.mobj hj hm hy) h1.symm
 · rcases List.mem_append.1 h1 with h2 | h2
   · have h3 : G.m i n = some y:=by simpa using h2
     exact hne (h.minj j i m n y hj hi hm hn hy h3)
   · exact (h.ltag hL hn h2).ne_map (h.mobj hj hm hy) rfl
theorem Mem.nXl (h : Mem p K w0 b O G w s) {i n a j m c y : Nat} {L : List Nat} (hi : i < 4) (hn : n < K.n1) (hj : j = 1 ∨ j = 2) (hm : m < K.n1) (hL : OwnL G i n a L) (hy : (G.wv j m (.int .i64 (c : Nat))).ownBlock = some y) (hne : ¬ (j = i ∧ m = n ∧ c = a)) : y ∉ K.tr i :: ((G.m i n).toList ++ L):=by
 have ht:=own_tag (h.hw j m c hj hm) hy
 refine h.nX hi hn ht (ht.ne (h.rtag hi) (by unfold rowT;(repeat' split) <;> decide)) (fun hx => hne ?_)
 have h1:=hL y hx
 exact h.winj j m c i n a y hj h1.1 hm hn hy h1.2
theorem Mem.oX (h : Mem p K w0 b O G w s) {i n a : Nat} {L : List Nat} (hi : i < 4) (hn : n < K.n1) (hL : OwnL G i n a L) : ∀ y ∈ K.tr i :: ((G.m i n).toList ++ L),O y:=fun y hm => by
 rcases List.mem_cons.1 hm with rfl | h1
 · exact h.otr i hi
 · rcases List.mem_append.1 h1 with h2 | h2
   · exact h.om i n y hi hn (by simpa using h2)
   · exact h.ow i n a y (hL y h2).1 hn (hL y h2).2
structure Side (p : Vb) (K : Kn) (w0 : World) (b : Nat) (O' : Nat → Prop) (G : Gh) (w' : World) (s : St) (i n a : Nat) : Prop where
 stat : Stat p K w0 O' w'
 box : Blk w' b (sbox p K G)
 btag : Tag w' b 99
 tj : i ≠ 0 → TbX w' (K.tr 0) K.n1 (G.m 0) (G.c 0) G.jv
 tw : ∀ j,j = 1 ∨ j = 2 → j ≠ i → TbL w' (K.tr j) K.n1 (G.m j) (G.c j) (G.wv j)
 tv : i ≠ 3 → TbV w' (K.tr 3) K.n1 (G.m 3) (G.c 3) G.vv
 hw : ∀ j m c,j = 1 ∨ j = 2 → m < K.n1 → ¬ (j = i ∧ m = n ∧ c = a) → w'.ownsRow w0.heap.size 3 1 (G.wv j m (.int .i64 (c : Nat))) (s.ls j m c).length ((ofNats (s.ls j m c)).map (Value.int .i64))
 prow : ∀ m,m < K.n1 → w'.cell? ⟨K.pr,m,none⟩ = some (G.pv m)
 ptag : Tag w' K.pr 122
 pown : ∀ m,m < K.n1 → w'.ownsRow w0.heap.size 101 2 (G.pv m) (s.pd m).length (pcells (s.pd m))
 queue : SInO O' w' G.qA G.qn G.qc (ofNats s.q)
 rank : SIn w' G.rA 0 G.rc []
theorem Mem.side (h : Mem p K w0 b O G w s) {i n a : Nat} {L : List Nat} (hi : i < 4) (hn : n < K.n1) (hL : OwnL G i n a L) (hk : Kept (K.tr i :: ((G.m i n).toList ++ L)) w w') (f : Fx O O' w w') : Side p K w0 b O' G w' s i n a:=by
 have hb:=h.nXt hi hn hL h.btag (by unfold rowT;(repeat' split) <;> decide) (by decide)
 have hp:=h.nXt hi hn hL h.ptag (by unfold rowT;(repeat' split) <;> decide) (by decide)
 have hrow : ∀ j,j < 4 → j ≠ i → K.tr j ∉ K.tr i :: ((G.m i n).toList ++ L):=fun j hj hne => h.nX hi hn (h.rtag hj) (h.trj hj hi hne) (fun hm => (h.rtag hj).ne (h.ltag hL hn hm) (by unfold rowT;(repeat' split) <;> decide) rfl)
 refine ⟨h.stat.fx f (fun x hx => (h.og x hx).1),hk.blk hb h.box,h.btag.same (hk.block b h.btag.lt hb),fun h0 => ?_,fun j hj hne => ?_,fun h3 => ?_,fun j m c hj hm hne => ?_,fun m hm => (hk.cell K.pr m h.ptag.lt hp).trans (h.prow m hm),h.ptag.same (hk.block _ h.ptag.lt hp),fun m hm => ?_,h.queue.fx f,?_⟩
 · exact h.tj.kept hk (hrow 0 (by omega) (Ne.symm h0)) (fun m x hm hx => h.nXm hi hn (by omega) hm hL hx (fun e => h0 e.1.symm))
 · exact (h.tw j hj).kept hk (hrow j (by omega) hne) (fun m x hm hx => h.nXm hi hn (by omega) hm hL hx (fun e => hne e.1))
 · exact h.tv.kept hk (hrow 3 (by omega) (Ne.symm h3)) (fun m x hm hx => h.nXm hi hn (by omega) hm hL hx (fun e => h3 e.1.symm))
 · exact own_kept2 (h.hw j m c hj hm) hk (fun g hg => h.nXl hi hn hj hm hL hg hne)
 · refine own_kept2 (h.pown m hm) hk (fun g hg => ?_)
   have ht:=own_tag (h.pown m hm) hg
   exact h.nXt hi hn hL ht (by unfold rowT;(repeat' split) <;> decide) (by decide)
 · exact h.rank.keptX hk (fun h0 => by omega)
structure NewM (G : Gh) (w w' : World) (i n : Nat) (m' : Nat → Option Nat) : Prop where
 old : ∀ l,l ≠ n → m' l = G.m i l
 at_ : m' n = G.m i n ∨ (G.m i n = none ∧ ∃ b,m' n = some b ∧ w.heap.size ≤ b)
 lt : ∀ x,m' n = some x → x < w'.heap.size
def _root_.Go.Df.Iv.Gh.setM (G : Gh) (i : Nat) (m' : Nat → Option Nat) (c' : Nat → Nat) : Gh:={ G with m:=fun j => if j = i then m' else G.m j,c:=fun j => if j = i then c' else G.c j }
theorem NewM.new {i n : Nat} {m' : Nat → Option Nat} (hm : NewM G w w' i n m') {x : Nat} (hx : m' n = some x) : G.m i n = some x ∨ w.heap.size ≤ x:=by
 rcases hm.at_ with h2 | ⟨-,y,h2,h3⟩
 · exact .inl (by rw [← h2];exact hx)
 · rw [h2] at hx;injection hx with hx;exact .inr (by omega)
theorem Mem.om2 (h : Mem p K w0 b O G w s) {i n : Nat} {m' : Nat → Option Nat} (hi : i < 4) (hm : NewM G w w' i n m') {j l x : Nat} (hj : j < 4) (hl : l < K.n1) (hx : (if j = i then m' else G.m j) l = some x) : O x ∨ m' n = some x:=by
 by_cases e : j = i
 · rw [if_pos e] at hx
   by_cases e2 : l = n
   · rw [e2] at hx;exact .inr hx
   · rw [hm.old l e2] at hx;exact .inl (h.om i l x hi hl hx)
 · rw [if_neg e] at hx;exact .inl (h.om j l x hj hl hx)
theorem Mem.minj2 (h : Mem p K w0 b O G w s) {i n : Nat} {m' : Nat → Option Nat} (hi : i < 4) (hn : n < K.n1) (hm : NewM G w w' i n m') {j l j' l' x : Nat} (hj : j < 4) (hj' : j' < 4) (hl : l < K.n1) (hl' : l' < K.n1)
   (hx : (if j = i then m' else G.m j) l = some x) (hx' : (if j' = i then m' else G.m j') l' = some x) : j = j' ∧ l = l':=by
 have key : ∀ {j l : Nat},j < 4 → l < K.n1 → (if j = i then m' else G.m j) l = some x → G.m j l = some x ∨ (j = i ∧ l = n ∧ w.heap.size ≤ x):=fun {j l} hj hl hx => by
   by_cases e : j = i
   · rw [if_pos e] at hx
     by_cases e2 : l = n
     · rw [e2] at hx
       rcases hm.new hx with h1 | h1
       · left;rw [e,e2];exact h1
       · exact .inr ⟨e,e2,h1⟩
     · rw [hm.old l e2] at hx;left;rw [e];exact hx
   · rw [if_neg e] at hx;exact .inl hx
 have lt : ∀ {j l : Nat},j < 4 → l < K.n1 → G.m j l = some x → x < w.heap.size:=fun hj hl h1 => (h.og x (h.om _ _ x hj hl h1)).2
 rcases key hj hl hx with h1 | ⟨rfl,rfl,h1⟩
 · rcases key hj' hl' hx' with h2 | ⟨rfl,rfl,h2⟩
   · exact h.minj j j' l l' x hj hj' hl hl' h1 h2
   · have:=lt hj hl h1;omega
 · rcases key hj' hl' hx' with h2 | ⟨rfl,rfl,h2⟩
   · have:=lt hj' hl' h2;omega
   · exact ⟨rfl,rfl⟩
end
end Go.Proofs.YtincpmdldpakkaaGreatDoor
namespace Go.Df
open Go.RowKit
theorem updV_ne {v : Nat → Value → Value} {n n' : Nat} {key key' x : Value} (h : ¬ (n' = n ∧ key' = key)) : updV v n key x n' key' = v n' key':=by unfold updV;rw [if_neg h]
theorem Ints.same {w w' : World} {A : Option Addr} {n : Nat} {l : List Int} (h : Ints w A n l) (hsz : w.heap.size ≤ w'.heap.size) (hs : ∀ a,0 < n → A = some a → a.block < w.heap.size → w'.heap[a.block]? = w.heap[a.block]?) : Ints w' A n l :=
 ⟨h.1,fun hn => by
   obtain ⟨b,o,e,hl,hc⟩:=h.2 hn
   exact ⟨b,o,e,by omega,fun i hi => (World.cell?_of_block (w:=w) (a:=⟨b,o + i,none⟩) (hs ⟨b,o,none⟩ hn e hl)).trans (hc i hi)⟩⟩
namespace Iv
theorem SnapL.same {K : Kn} {O O' : Nat → Prop} {G : Gh} {s : St} {w w' : World} {A : Option Addr} {n : Nat} {l : List Nat} (h : SnapL K O G s w A n l) (f : Fx O O' w w') (hb : ∀ g i m c,(i = 1 ∨ i = 2) → m < K.n1 → (G.wv i m (.int .i64 (c : Nat))).ownBlock = some g → w'.heap[g]? = w.heap[g]?) {G' : Gh} {s' : St}
   (hG : ∀ i m c,(i = 1 ∨ i = 2) → m < K.n1 → G'.wv i m (.int .i64 (c : Nat)) = G.wv i m (.int .i64 (c : Nat))) (hs : ∀ i m c,s'.ls i m c = s.ls i m c) : SnapL K O' G' s' w' A n l:=by
 refine ⟨h.1.same f.size (fun a hn ha hl => ?_),fun hn a ha => ?_⟩
 · rcases h.2 hn a ha with h1 | ⟨g,i,m,c,rfl,hi,hm,hg,-⟩
   · exact f.blk _ h1.1 h1.2
   · exact hb g i m c hi hm hg
 · rcases h.2 hn a ha with h1 | ⟨g,i,m,c,e,hi,hm,hg,r,hr⟩
   · exact .inl (h1.fx f)
   · exact .inr ⟨g,i,m,c,e,hi,hm,by rw [hG i m c hi hm];exact hg,r,by rw [hs];exact hr⟩
theorem int_key {a a' : Nat} (h : Value.int .i64 (a : Nat) = Value.int .i64 (a' : Nat)) : a = a':=by injection h with _ h;omega
end Iv
end Go.Df
namespace Go.Proofs.YtincpmdldpakkaaGreatDoor
open Go.RowKit Go.Df Go.Df.Iv Go.Df.Sp
section
variable {p : Vb} {K : Kn} {w0 : World} {b : Nat} {O O' : Nat → Prop} {G : Gh} {w w' : World} {s : St}
theorem _root_.Go.Df.Iv.Gh.setM_m (G : Gh) (i : Nat) (m' : Nat → Option Nat) (c' : Nat → Nat) {j : Nat} (h : j ≠ i) : (G.setM i m' c').m j = G.m j ∧ (G.setM i m' c').c j = G.c j:=⟨if_neg h,if_neg h⟩
theorem _root_.Go.Df.Iv.Gh.setM_at (G : Gh) (i : Nat) (m' : Nat → Option Nat) (c' : Nat → Nat) : (G.setM i m' c').m i = m' ∧ (G.setM i m' c').c i = c':=⟨if_pos rfl,if_pos rfl⟩
theorem cb_up {i n N : Nat} {c : Nat → Nat → Nat} {k : Nat → Nat} (h : ∀ j l,j < 4 → l < N → c j l ≤ k j) (hi : i < 4) (hn : n < N) : ∀ j l,j < 4 → l < N → (if j = i then (fun x => if x = n then c i n + 1 else c i x) else c j) l ≤ bump k i j:=fun j l hj hl => by
 have h1:=h j l hj hl
 have h2:=h i n hi hn
 unfold bump
 by_cases e : j = i
 · subst e
   rw [if_pos rfl,if_pos rfl]
   split
   · omega
   · omega
 · rw [if_neg e,if_neg e];exact h1
def Oup (O : Nat → Prop) (m' : Nat → Option Nat) (n : Nat) : Nat → Prop:=fun x => O x ∨ m' n = some x
theorem Mem.oup (h : Mem p K w0 b O G w s) {i n : Nat} {m' : Nat → Option Nat} (hi : i < 4) (hn : n < K.n1) (N : NewM G w w' i n m') : ∀ x,Oup O m' n x → O x ∨ w.heap.size ≤ x:=fun x hx => by
 rcases hx with hx | hx
 · exact .inl hx
 · rcases N.new hx with h1 | h1
   · exact .inl (h.om i n x hi hn h1)
   · exact .inr h1
theorem Mem.ogup (h : Mem p K w0 b O G w s) {i n : Nat} {m' : Nat → Option Nat} (hi : i < 4) (hn : n < K.n1) (N : NewM G w w' i n m') (hsz : w.heap.size ≤ w'.heap.size) : ∀ x,Oup O m' n x → w0.heap.size ≤ x ∧ x < w'.heap.size:=fun x hx => by
 rcases hx with hx | hx
 · have:=h.og x hx;omega
 · refine ⟨?_,N.lt x hx⟩
   rcases N.new hx with h1 | h1
   · exact (h.og x (h.om i n x hi hn h1)).1
   · have:=h.low.size;omega
theorem Mem.put_jump (h : Mem p K w0 b O G w s) {n a d : Nat} {y : D} {e : Ending} (hn : n < K.n1)
   (hp : PutT Tryz.prog 101 84 (.agg #[.int .i64 0,.int .i64 0,.int .i64 0]) w (K.tr 0) K.n1 (G.m 0) (G.c 0) G.jv n (pv2 a d) (xv y) e w') :
   ∃ O' G',e = .returned (.tuple #[]) ∧ Mem p K w0 b O' G' w' (s.setT n a d y) ∧ Fy K O O' G G' s (s.setT n a d y) w w':=by
 obtain ⟨m',he,hT,hk,hm1,hm2⟩:=hp
 have N : NewM G w w' 0 n m':=⟨hm1,hm2,fun x hx => (hT.is n x hn hx).lt⟩
 have hL : OwnL G 0 n a []:=fun y hy => by simp at hy
 have hk2 : Kept (K.tr 0 :: ((G.m 0 n).toList ++ [])) w w':=by simpa using hk
 have f : Fx O (Oup O m' n) w w':=Fx.of hk2 (fun x hx => .inl (h.oX (by omega) hn hL x hx)) (h.oup (by omega) hn N)
 have S:=h.side (by omega) hn hL hk2 f
 refine ⟨Oup O m' n,{ G.setM 0 m' (fun j => if j = n then G.c 0 n + 1 else G.c 0 j) with jv:=updV G.jv n (pv2 a d) (xv y) },he,?_,f,fun A n' l hs => ?_⟩
 · refine
   { low:=S.stat.low,og:=h.ogup (by omega) hn N f.size,ob:=.inl h.ob,box:=S.box,btag:=S.btag,start:=S.stat.start,out:=S.stat.out,calls:=S.stat.calls,leav:=S.stat.leav,rets:=S.stat.rets,seeds:=S.stat.seeds,entr:=S.stat.entr,entO:=S.stat.entO,ents:=S.stat.ents,
     tj:=hT,tw:=fun j hj => by
       have e:=Iv.Gh.setM_m G 0 m' (fun j => if j = n then G.c 0 n + 1 else G.c 0 j) (j:=j) (by omega)
       show TbL w' (K.tr j) K.n1 ((G.setM 0 m' (fun j => if j = n then G.c 0 n + 1 else G.c 0 j)).m j) ((G.setM 0 m' (fun j => if j = n then G.c 0 n + 1 else G.c 0 j)).c j) (G.wv j)
       rw [e.1,e.2]
       exact S.tw j hj (by omega),
     tv:=S.tv (by omega),hj:=fun n' a' d' hn' => ?_,hv:=h.hv,jno:=fun n' key hn' hne => ?_,hw:=fun j m c hj hm => S.hw j m c hj hm (by omega),otr:=fun i hi => .inl (h.otr i hi),opr:=.inl h.opr,om:=fun j l x hj hl hx => h.om2 (by omega) N hj hl hx,ow:=fun j m c x hj hm hx => .inl (h.ow j m c x hj hm hx),opv:=fun m x hm hx => .inl (h.opv m x hm hx),
     minj:=fun j j' l l' x hj hj' hl hl' hx hx' => h.minj2 (by omega) hn N hj hj' hl hl' hx hx',winj:=h.winj,trne:=h.trne,prow:=S.prow,ptag:=S.ptag,pown:=S.pown,dpp:=h.dpp,queue:=S.queue,rank:=S.rank,cb:=cb_up h.cb (by omega) hn,pb:=fun m hm => h.pb m hm }
   · show updV G.jv n (pv2 a d) (xv y) n' (pv2 a' d') = xv (s.put n a d y n' a' d')
     by_cases e : n' = n ∧ a' = a ∧ d' = d
     · obtain ⟨rfl,rfl,rfl⟩:=e
       rw [updV_at,St.put_at]
     · rw [updV_ne,St.put_ne s _ e]
       · exact h.hj n' a' d' hn'
       · rintro ⟨e1,e2⟩
         have:=pv2_inj e2
         omega
   · show updV G.jv n (pv2 a d) (xv y) n' key = _
     rw [updV_ne (by rintro ⟨-,e2⟩;exact hne a d e2)]
     exact h.jno n' key hn' hne
 · exact hs.same f (fun g i m c hi hm hg => hk2.block g (own_lt2 (h.hw i m c hi hm) hg) (h.nXl (by omega) hn hi hm hL hg (by omega))) (fun _ _ _ _ _ => rfl) (fun _ _ _ => rfl)
theorem Mem.put_val (h : Mem p K w0 b O G w s) {n a : Nat} {y : U} {e : Ending} (hn : n < K.n1)
   (hp : PutT Tryz.prog 3 179 (.agg #[.int .i64 0,.int .i64 0]) w (K.tr 3) K.n1 (G.m 3) (G.c 3) G.vv n (.int .i64 (a : Nat)) (uv y) e w') :
   ∃ O' G',e = .returned (.tuple #[]) ∧ Mem p K w0 b O' G' w' (s.setV n a y) ∧ Fy K O O' G G' s (s.setV n a y) w w':=by
 obtain ⟨m',he,hT,hk,hm1,hm2⟩:=hp
 have N : NewM G w w' 3 n m':=⟨hm1,hm2,fun x hx => (hT.is n x hn hx).lt⟩
 have hL : OwnL G 3 n a []:=fun y hy => by simp at hy
 have hk2 : Kept (K.tr 3 :: ((G.m 3 n).toList ++ [])) w w':=by simpa using hk
 have f : Fx O (Oup O m' n) w w':=Fx.of hk2 (fun x hx => .inl (h.oX (by omega) hn hL x hx)) (h.oup (by omega) hn N)
 have S:=h.side (by omega) hn hL hk2 f
 refine ⟨Oup O m' n,{ G.setM 3 m' (fun j => if j = n then G.c 3 n + 1 else G.c 3 j) with vv:=updV G.vv n (.int .i64 (a : Nat)) (uv y) },he,?_,f,fun A n' l hs => ?_⟩
 · refine
   { low:=S.stat.low,og:=h.ogup (by omega) hn N f.size,ob:=.inl h.ob,box:=S.box,btag:=S.btag,start:=S.stat.start,out:=S.stat.out,calls:=S.stat.calls,leav:=S.stat.leav,rets:=S.stat.rets,seeds:=S.stat.seeds,entr:=S.stat.entr,entO:=S.stat.entO,ents:=S.stat.ents,
     tj:=S.tj (by omega),tw:=fun j hj => by
       have e:=Iv.Gh.setM_m G 3 m' (fun j => if j = n then G.c 3 n + 1 else G.c 3 j) (j:=j) (by omega)
       show TbL w' (K.tr j) K.n1 ((G.setM 3 m' (fun j => if j = n then G.c 3 n + 1 else G.c 3 j)).m j) ((G.setM 3 m' (fun j => if j = n then G.c 3 n + 1 else G.c 3 j)).c j) (G.wv j)
       rw [e.1,e.2]
       exact S.tw j hj (by omega),
     tv:=hT,hj:=h.hj,hv:=fun n' a' hn' => ?_,jno:=h.jno,hw:=fun j m c hj hm => S.hw j m c hj hm (by omega),otr:=fun i hi => .inl (h.otr i hi),opr:=.inl h.opr,om:=fun j l x hj hl hx => h.om2 (by omega) N hj hl hx,ow:=fun j m c x hj hm hx => .inl (h.ow j m c x hj hm hx),opv:=fun m x hm hx => .inl (h.opv m x hm hx),
     minj:=fun j j' l l' x hj hj' hl hl' hx hx' => h.minj2 (by omega) hn N hj hj' hl hl' hx hx',winj:=h.winj,trne:=h.trne,prow:=S.prow,ptag:=S.ptag,pown:=S.pown,dpp:=h.dpp,queue:=S.queue,rank:=S.rank,cb:=cb_up h.cb (by omega) hn,pb:=fun m hm => h.pb m hm }
   show updV G.vv n (.int .i64 (a : Nat)) (uv y) n' (.int .i64 (a' : Nat)) = uv (if n' = n ∧ a' = a then y else s.V n' a')
   by_cases e : n' = n ∧ a' = a
   · obtain ⟨rfl,rfl⟩:=e
     rw [updV_at,if_pos ⟨rfl,rfl⟩]
   · rw [updV_ne,if_neg e]
     · exact h.hv n' a' hn'
     · rintro ⟨e1,e2⟩
       exact e ⟨e1,int_key e2⟩
 · exact hs.same f (fun g i m c hi hm hg => hk2.block g (own_lt2 (h.hw i m c hi hm) hg) (h.nXl (by omega) hn hi hm hL hg (by omega))) (fun _ _ _ _ _ => rfl) (fun _ _ _ => rfl)
theorem Mem.tw1 (h : Mem p K w0 b O G w s) {i n a : Nat} {w1 : World} (hi : i = 1 ∨ i = 2) (hn : n < K.n1) (hk1 : Kept (G.wv i n (.int .i64 (a : Nat))).ownBlock.toList w w1) : TbL w1 (K.tr i) K.n1 (G.m i) (G.c i) (G.wv i):=by
 have hL : OwnL G i n a (G.wv i n (.int .i64 (a : Nat))).ownBlock.toList:=fun y hy => ⟨hi,by simpa using hy⟩
 exact (h.tw i hi).kept hk1 (fun hm => (h.rtag (by omega)).ne (h.ltag hL hn hm) (by unfold rowT;(repeat' split) <;> decide) rfl) (fun m x hm hx hy => (h.ltag hL hn hy).ne_map (h.mobj (by omega) hm hx) rfl)
end
end Go.Proofs.YtincpmdldpakkaaGreatDoor
namespace Go.Proofs.YtincpmdldpakkaaGreatDoor
open Go.RowKit Go.Df Go.Df.Iv Go.Df.Sp
section
variable {p : Vb} {K : Kn} {w0 : World} {b : Nat} {O O' : Nat → Prop} {G : Gh} {w w' : World} {s : St}
theorem Mem.put_list (h : Mem p K w0 b O G w s) {i n a x N : Nat} {A : Option Addr} {c : Nat} {w1 : World} {e : Ending} (hi : i = 1 ∨ i = 2) (hn : n < K.n1) (hN : N = (s.ls i n a ++ [x]).length)
   (hk1 : Kept (G.wv i n (.int .i64 (a : Nat))).ownBlock.toList w w1) (hv : w1.ownsRow w0.heap.size 3 1 (.slice A N c) N ((ofNats (s.ls i n a ++ [x])).map (Value.int .i64)))
   (hg : ∀ g,(Value.slice A N c).ownBlock = some g → (G.wv i n (.int .i64 (a : Nat))).ownBlock = some g ∨ (g = w.heap.size ∧ Kept [] w w1))
   (hp : PutT Tryz.prog 3 233 (.slice none 0 0) w1 (K.tr i) K.n1 (G.m i) (G.c i) (G.wv i) n (.int .i64 (a : Nat)) (.slice A N c) e w') :
   ∃ O' G',e = .returned (.tuple #[]) ∧ Mem p K w0 b O' G' w' (s.addL i n a x) ∧ Fy K O O' G G' s (s.addL i n a x) w w':=by
 obtain ⟨m',he,hT,hk,hm1,hm2⟩:=hp
 have hi4 : i < 4:=by omega
 have hL : OwnL G i n a (G.wv i n (.int .i64 (a : Nat))).ownBlock.toList:=fun y hy => ⟨hi,by simpa using hy⟩
 have hsz1 : w.heap.size ≤ w1.heap.size:=hk1.size
 have Nn : NewM G w w' i n m':=⟨hm1,by
   rcases hm2 with h1 | ⟨h1,y,h2,h3⟩
   · exact .inl h1
   · exact .inr ⟨h1,y,h2,by omega⟩,fun x hx => (hT.is n x hn hx).lt⟩
 have hk2 : Kept (K.tr i :: ((G.m i n).toList ++ (G.wv i n (.int .i64 (a : Nat))).ownBlock.toList)) w w':=(keptWide hk1 (fun y hy => List.mem_cons_of_mem _ (List.mem_append.2 (.inr hy)))).next hk (fun y hy => .inl (by
   rcases List.mem_cons.1 hy with h1 | h1
   · exact List.mem_cons.2 (.inl h1)
   · exact List.mem_cons_of_mem _ (List.mem_append.2 (.inl h1))))
 obtain ⟨g0,hg0⟩ : ∃ g0,(Value.slice A N c).ownBlock = some g0:=by
   rcases hv.2 with ⟨-,h2⟩ | ⟨g,cap,cur,h1,_⟩
   · subst h2;simp at hN
   · exact ⟨g,by rw [h1];rfl⟩
 have tg0:=own_tag hv hg0
 have nt : ∀ {j : Nat},j < 4 → rowT j ≠ 3:=fun _ => by unfold rowT;(repeat' split) <;> decide
 have tr1 : Tag w1 (K.tr i) (rowT i):=(h.rtag hi4).same (hk1.block _ (h.rtag hi4).lt (fun hm => (h.rtag hi4).ne (h.ltag hL hn hm) (nt hi4) rfl))
 have g0X : g0 ∉ K.tr i :: (G.m i n).toList:=fun hm => by
   rcases List.mem_cons.1 hm with h1 | h1
   · exact tg0.ne tr1 (nt hi4).symm h1
   · have h2 : G.m i n = some g0:=by simpa using h1
     obtain ⟨es,cl,h3⟩:=h.mobj hi4 hn h2
     exact tg0.ne_map ⟨es,cl,(hk1.block g0 (Array.getElem?_eq_some_iff.1 h3).1 (fun hm => (h.ltag hL hn hm).ne_map ⟨es,cl,h3⟩ rfl)).trans h3⟩ rfl
 have hv' : w'.ownsRow w0.heap.size 3 1 (.slice A N c) N ((ofNats (s.ls i n a ++ [x])).map (Value.int .i64)):=own_kept2 hv hk (fun g hg => by rw [hg0] at hg;injection hg with hg;rw [← hg];exact g0X)
 obtain ⟨O',hO'⟩ : ∃ O' : Nat → Prop,O' = fun y => ((O y ∧ (G.wv i n (.int .i64 (a : Nat))).ownBlock ≠ some y) ∨ m' n = some y) ∨ g0 = y:=⟨_,rfl⟩
 have hO1 : ∀ y,O y → (G.wv i n (.int .i64 (a : Nat))).ownBlock ≠ some y → O' y:=fun y h1 h2 => by rw [hO'];exact .inl (.inl ⟨h1,h2⟩)
 have hO2 : ∀ y,m' n = some y → O' y:=fun y h1 => by rw [hO'];exact .inl (.inr h1)
 have hO3 : O' g0:=by rw [hO'];exact .inr rfl
 have hg0n : O g0 ∨ w.heap.size ≤ g0:=by
   rcases hg g0 hg0 with h1 | ⟨h1,-⟩
   · exact .inl (h.ow i n a g0 hi hn h1)
   · exact .inr (by omega)
 have hOO : ∀ y,O' y → O y ∨ w.heap.size ≤ y:=fun y hy => by
   rw [hO'] at hy
   rcases hy with (h1 | h1) | h1
   · exact .inl h1.1
   · rcases Nn.new h1 with h2 | h2
     · exact .inl (h.om i n y hi4 hn h2)
     · exact .inr h2
   · rw [← h1];exact hg0n
 have f : Fx O O' w w':=Fx.of hk2 (fun y hy => .inl (h.oX hi4 hn hL y hy)) hOO
 have S:=h.side hi4 hn hL hk2 f
 have nl : ∀ y t,Tag w y t → t ≠ 3 → (G.wv i n (.int .i64 (a : Nat))).ownBlock ≠ some y:=fun y t ht hne hy => ht.ne (own_tag (h.hw i n a hi hn) hy) hne rfl
 have nm : ∀ y j l,j < 4 → l < K.n1 → G.m j l = some y → (G.wv i n (.int .i64 (a : Nat))).ownBlock ≠ some y:=fun y j l hj hl hm hy => (own_tag (h.hw i n a hi hn) hy).ne_map (h.mobj hj hl hm) rfl
 have eW : ∀ {j l k : Nat},(j = i ∧ l = n ∧ k = a) → (if j = i then updV (G.wv i) n (.int .i64 (a : Nat)) (.slice A N c) else G.wv j) l (.int .i64 (k : Nat)) = .slice A N c:=fun hh => by
   obtain ⟨rfl,rfl,rfl⟩:=hh
   rw [if_pos rfl,updV_at]
 have nW : ∀ {j l k : Nat},¬ (j = i ∧ l = n ∧ k = a) → (if j = i then updV (G.wv i) n (.int .i64 (a : Nat)) (.slice A N c) else G.wv j) l (.int .i64 (k : Nat)) = G.wv j l (.int .i64 (k : Nat)):=fun {j l k} hh => by
   by_cases e1 : j = i
   · rw [if_pos e1,updV_ne,e1]
     rintro ⟨e2,e3⟩
     exact hh ⟨e1,e2,int_key e3⟩
   · rw [if_neg e1]
 have eS : ∀ {j l k : Nat},(j = i ∧ l = n ∧ k = a) → (s.addL i n a x).ls j l k = s.ls i n a ++ [x]:=fun hh => if_pos hh
 have nS : ∀ {j l k : Nat},¬ (j = i ∧ l = n ∧ k = a) → (s.addL i n a x).ls j l k = s.ls j l k:=fun hh => if_neg hh
 refine ⟨O',{ G.setM i m' (fun j => if j = n then G.c i n + 1 else G.c i j) with wv:=fun j => if j = i then updV (G.wv i) n (.int .i64 (a : Nat)) (.slice A N c) else G.wv j },he,?_,f,fun A2 n2 l hs => ?_⟩
 · refine
   { low:=S.stat.low,og:=fun y hy => ?_,ob:=hO1 b h.ob (nl b _ h.btag (by decide)),box:=S.box,btag:=S.btag,start:=S.stat.start,out:=S.stat.out,calls:=S.stat.calls,leav:=S.stat.leav,rets:=S.stat.rets,seeds:=S.stat.seeds,entr:=S.stat.entr,entO:=S.stat.entO,ents:=S.stat.ents,
     tj:=?_,tw:=fun j hj => ?_,tv:=?_,hj:=h.hj,hv:=h.hv,jno:=h.jno,hw:=fun j m k hj hm => ?_,otr:=fun j hj => hO1 _ (h.otr j hj) (nl _ _ (h.rtag hj) (nt hj)),opr:=hO1 _ h.opr (nl _ _ h.ptag (by decide)),om:=fun j l y hj hl hy => ?_,ow:=fun j m k y hj hm hy => ?_,opv:=fun m y hm hy => hO1 y (h.opv m y hm hy) (nl y _ (own_tag (h.pown m hm) hy) (by decide)),
     minj:=fun j j' l l' x hj hj' hl hl' hx hx' => h.minj2 hi4 hn Nn hj hj' hl hl' hx hx',winj:=fun j m k j' m' k' y hj hj' hm hm' hy hy' => ?_,trne:=h.trne,prow:=S.prow,ptag:=S.ptag,pown:=S.pown,dpp:=h.dpp,queue:=S.queue,rank:=S.rank,cb:=cb_up h.cb hi4 hn,pb:=fun m hm => ?_ }
   · refine ⟨?_,?_⟩
     · rcases hOO y hy with h1 | h1
       · exact (h.og y h1).1
       · have:=h.low.size;omega
     · rw [hO'] at hy
       rcases hy with (h1 | h1) | h1
       · have:=(h.og y h1.1).2;have:=f.size;omega
       · exact Nn.lt y h1
       · have:=tg0.lt;have:=hk.size;omega
   · have e:=Iv.Gh.setM_m G i m' (fun j => if j = n then G.c i n + 1 else G.c i j) (j:=0) (by omega)
     show TbX w' (K.tr 0) K.n1 ((G.setM i m' (fun j => if j = n then G.c i n + 1 else G.c i j)).m 0) ((G.setM i m' (fun j => if j = n then G.c i n + 1 else G.c i j)).c 0) G.jv
     rw [e.1,e.2]
     exact S.tj (by omega)
   · show TbL w' (K.tr j) K.n1 ((G.setM i m' (fun j => if j = n then G.c i n + 1 else G.c i j)).m j) ((G.setM i m' (fun j => if j = n then G.c i n + 1 else G.c i j)).c j) (if j = i then updV (G.wv i) n (.int .i64 (a : Nat)) (.slice A N c) else G.wv j)
     by_cases e : j = i
     · subst e
       rw [(Iv.Gh.setM_at G j m' _).1,(Iv.Gh.setM_at G j m' _).2,if_pos rfl]
       exact hT
     · rw [(Iv.Gh.setM_m G i m' _ e).1,(Iv.Gh.setM_m G i m' _ e).2,if_neg e]
       exact S.tw j hj e
   · have e:=Iv.Gh.setM_m G i m' (fun j => if j = n then G.c i n + 1 else G.c i j) (j:=3) (by omega)
     show TbV w' (K.tr 3) K.n1 ((G.setM i m' (fun j => if j = n then G.c i n + 1 else G.c i j)).m 3) ((G.setM i m' (fun j => if j = n then G.c i n + 1 else G.c i j)).c 3) G.vv
     rw [e.1,e.2]
     exact S.tv (by omega)
   · show w'.ownsRow w0.heap.size 3 1 ((if j = i then updV (G.wv i) n (.int .i64 (a : Nat)) (.slice A N c) else G.wv j) m (.int .i64 (k : Nat))) _ _
     by_cases e : j = i ∧ m = n ∧ k = a
     · rw [eW e,eS e,← hN];exact hv'
     · rw [nW e,nS e];exact S.hw j m k hj hm e
   · rcases h.om2 hi4 Nn hj hl hy with h1 | h1
     · by_cases e : (if j = i then m' else G.m j) l = G.m j l
       · exact hO1 y h1 (nm y j l hj hl (by rw [← e];exact hy))
       · by_cases e1 : j = i
         · by_cases e2 : l = n
           · have hy2 : (if j = i then m' else G.m j) l = some y:=hy
             rw [if_pos e1,e2] at hy2
             exact hO2 y hy2
           · exact absurd (by rw [if_pos e1,hm1 l e2,e1]) e
         · exact absurd (by rw [if_neg e1]) e
     · exact hO2 y h1
   · have hy : ((if j = i then updV (G.wv i) n (.int .i64 (a : Nat)) (.slice A N c) else G.wv j) m (.int .i64 (k : Nat))).ownBlock = some y:=hy
     by_cases e : j = i ∧ m = n ∧ k = a
     · rw [eW e,hg0] at hy
       injection hy with hy
       rw [← hy];exact hO3
     · rw [nW e] at hy
       exact hO1 y (h.ow j m k y hj hm hy) (fun hy2 => e (h.winj j m k i n a y hj hi hm hn hy hy2))
   · have hy : ((if j = i then updV (G.wv i) n (.int .i64 (a : Nat)) (.slice A N c) else G.wv j) m (.int .i64 (k : Nat))).ownBlock = some y:=hy
     have hy' : ((if j' = i then updV (G.wv i) n (.int .i64 (a : Nat)) (.slice A N c) else G.wv j') m' (.int .i64 (k' : Nat))).ownBlock = some y:=hy'
     have key : ∀ {j m k : Nat},j = 1 ∨ j = 2 → m < K.n1 → ¬ (j = i ∧ m = n ∧ k = a) → (G.wv j m (.int .i64 (k : Nat))).ownBlock = some y → g0 = y → False:=fun {j m k} hj hm hne hb e0 => by
       rcases hg g0 hg0 with h1 | ⟨h1,-⟩
       · exact hne (h.winj j m k i n a y hj hi hm hn hb (e0 ▸ h1))
       · have:=(own_lt2 (h.hw j m k hj hm) hb);omega
     by_cases e : j = i ∧ m = n ∧ k = a
     · by_cases e' : j' = i ∧ m' = n ∧ k' = a
       · omega
       · rw [eW e,hg0] at hy
         injection hy with hy
         rw [nW e'] at hy'
         exact (key hj' hm' e' hy' hy).elim
     · rw [nW e] at hy
       by_cases e' : j' = i ∧ m' = n ∧ k' = a
       · rw [eW e',hg0] at hy'
         injection hy' with hy'
         exact (key hj hm e hy hy').elim
       · rw [nW e'] at hy'
         exact h.winj j m k j' m' k' y hj hj' hm hm' hy hy'
   · have h1:=h.pb m hm
     show (s.pd m).length ≤ bump s.k i 4
     unfold bump
     rw [if_neg (by omega)]
     exact h1
 · have hsz:=f.size
   by_cases hcase : 0 < n2 ∧ ∃ y,A2 = some ⟨y,0,none⟩ ∧ (G.wv i n (.int .i64 (a : Nat))).ownBlock = some y
   · obtain ⟨h0,y,rfl,hy⟩:=hcase
     have hys : ¬ SafeB O w y:=fun hs2 => hs2.2 (h.ow i n a y hi hn hy)
     have hex : ∃ r,s.ls i n a = l ++ r:=by
       rcases hs.2 h0 _ rfl with h1 | ⟨g,j,m,k,e1,hj,hm,hgk,r,hr⟩
       · exact absurd h1 hys
       · injection e1 with e1 _ _
         subst e1
         obtain ⟨rfl,rfl,rfl⟩:=h.winj j m k i n a y hj hi hm hn hgk hy
         exact ⟨r,hr⟩
     obtain ⟨r,hr⟩:=hex
     rcases hg g0 hg0 with h1 | ⟨h1,h2⟩
     · -- in place
       rw [hy] at h1
       injection h1 with h1
       subst h1
       obtain ⟨A3,c3,hv3,hin,-⟩:=Ints.of_own hv'
       injection hv3 with hA3 _ _
       subst hA3
       rcases hv.2 with ⟨h5,-⟩ | ⟨g,cap,cur,h5,_⟩
       · rw [h5] at hg0;cases hg0
       injection h5 with h5 _ _
       have h6 : g = y:=by rw [h5] at hg0;injection hg0
       subst h6
       subst h5
       have hlen : l.length = n2:=by have:=hs.1.1;simpa [ofNats] using this
       have hnN : n2 ≤ N:=by rw [hN,hr];simp;omega
       obtain ⟨b2,o2,e2,hl2,hc2⟩:=hin.2 (by omega)
       injection e2 with e2
       injection e2 with e2 e3 _
       subst e2 e3
       refine ⟨⟨hs.1.1,fun _ => ⟨g,0,rfl,hl2,fun j hj => ?_⟩⟩,fun _ a2 ha2 => .inr ⟨g,i,n,a,by injection ha2 with ha2;exact ha2.symm,hi,hn,?_,r ++ [x],by rw [eS ⟨rfl,rfl,rfl⟩,hr];simp⟩⟩
       · rw [hc2 j (by omega)]
         congr 2
         rw [hr]
         unfold gi ofNats
         simp only [List.map_append,List.append_assoc,List.getD_eq_getElem?_getD]
         rw [List.getElem?_append_left (by simpa using (by omega : j < l.length))]
       · show ((if i = i then updV (G.wv i) n (.int .i64 (a : Nat)) (.slice (some ⟨g,0,none⟩) N c) else G.wv i) n (.int .i64 (a : Nat))).ownBlock = some g
         rw [if_pos rfl,updV_at];rfl
     · -- a new block: the old one stays as it is
       have hyl : y < w.heap.size:=own_lt2 (h.hw i n a hi hn) hy
       have hyX : y ∉ K.tr i :: (G.m i n).toList:=fun hm => by
         have ht:=own_tag (h.hw i n a hi hn) hy
         rcases List.mem_cons.1 hm with h3 | h3
         · exact ht.ne (h.rtag hi4) (nt hi4).symm h3
         · exact ht.ne_map (h.mobj hi4 hn (by simpa using h3)) rfl
       have hbl : w'.heap[y]? = w.heap[y]?:=(hk.block y (by omega) hyX).trans (h2.block y hyl (by simp))
       refine ⟨hs.1.same hsz (fun a2 _ ha2 _ => by injection ha2 with ha2;subst ha2;exact hbl),fun _ a2 ha2 => .inl ?_⟩
       injection ha2 with ha2
       subst ha2
       refine ⟨by show y < _;omega,fun ho => ?_⟩
       rw [hO'] at ho
       rcases ho with (h3 | h3) | h3
       · exact h3.2 hy
       · rcases Nn.new h3 with h4 | h4
         · exact nm y i n hi4 hn h4 hy
         · have h4 : w.heap.size ≤ y:=h4
           omega
       · have h3 : g0 = y:=h3
         omega
   · -- another list
     refine ⟨hs.1.same hsz (fun a2 h0 ha2 hl2 => ?_),fun h0 a2 ha2 => ?_⟩
     · rcases hs.2 h0 a2 ha2 with h1 | ⟨g,j,m,k,rfl,hj,hm,hgk,-⟩
       · exact f.blk _ h1.1 h1.2
       · refine hk2.block g hl2 (h.nXl hi4 hn hj hm hL hgk (fun e => hcase ⟨h0,g,ha2,?_⟩))
         obtain ⟨rfl,rfl,rfl⟩:=e
         exact hgk
     · rcases hs.2 h0 a2 ha2 with h1 | ⟨g,j,m,k,rfl,hj,hm,hgk,r,hr⟩
       · exact .inl (h1.fx f)
       · have e : ¬ (j = i ∧ m = n ∧ k = a) := fun e => hcase ⟨h0, g, ha2, by
           obtain ⟨rfl,rfl,rfl⟩:=e
           exact hgk⟩
         refine .inr ⟨g,j,m,k,rfl,hj,hm,?_,r,by rw [nS e];exact hr⟩
         show ((if j = i then updV (G.wv i) n (.int .i64 (a : Nat)) (.slice A N c) else G.wv j) m (.int .i64 (k : Nat))).ownBlock = some g
         rw [nW e];exact hgk
end
end Go.Proofs.YtincpmdldpakkaaGreatDoor
