/- Texts: Bn Bo Bp. -/
import Derived.Test.YtincpmdldpakkaaGreatDoorMt24
import Derived.Test.YtincpmdldpakkaaGreatDoorMt06
namespace Go.Proofs.YtincpmdldpakkaaGreatDoor
open Go.RowKit Go.Df Go.Df.Iv Go.Df.Sp
section
variable {p : Vb} {K : Kn} {w0 : World} {b : Nat} {O O' : Nat → Prop} {G : Gh} {w w' : World} {s : St}
structure Side2 (p : Vb) (K : Kn) (w0 : World) (O' : Nat → Prop) (G : Gh) (w' : World) (s : St) : Prop where
 stat : Stat p K w0 O' w'
 tj : TbX w' (K.tr 0) K.n1 (G.m 0) (G.c 0) G.jv
 tw : ∀ j,j = 1 ∨ j = 2 → TbL w' (K.tr j) K.n1 (G.m j) (G.c j) (G.wv j)
 tv : TbV w' (K.tr 3) K.n1 (G.m 3) (G.c 3) G.vv
 hw : ∀ j m c,j = 1 ∨ j = 2 → m < K.n1 → w'.ownsRow w0.heap.size 3 1 (G.wv j m (.int .i64 (c : Nat))) (s.ls j m c).length ((ofNats (s.ls j m c)).map (Value.int .i64))
 rank : SIn w' G.rA 0 G.rc []
theorem Mem.side2 (h : Mem p K w0 b O G w s) {X : List Nat} (hk : Kept X w w') (f : Fx O O' w w') (hX : ∀ y ∈ X,Tag w y 99 ∨ Tag w y 122 ∨ Tag w y 101) : Side2 p K w0 O' G w' s:=by
 have key : ∀ {y : Nat} {t : TypeId},Tag w y t → t ≠ 99 → t ≠ 122 → t ≠ 101 → y ∉ X:=fun ht h1 h2 h3 hm => by
   rcases hX _ hm with h4 | h4 | h4
   · exact ht.ne h4 h1 rfl
   · exact ht.ne h4 h2 rfl
   · exact ht.ne h4 h3 rfl
 have kr : ∀ {j : Nat},j < 4 → K.tr j ∉ X:=fun hj => key (h.rtag hj) (by unfold rowT;(repeat' split) <;> decide) (by unfold rowT;(repeat' split) <;> decide) (by unfold rowT;(repeat' split) <;> decide)
 have km : ∀ {j l x : Nat},j < 4 → l < K.n1 → G.m j l = some x → x ∉ X:=fun hj hl hx hm => by
   rcases hX _ hm with h4 | h4 | h4 <;> exact h4.ne_map (h.mobj hj hl hx) rfl
 exact ⟨h.stat.fx f (fun x hx => (h.og x hx).1),h.tj.kept hk (kr (by omega)) (fun m x hm hx => km (by omega) hm hx),fun j hj => (h.tw j hj).kept hk (kr (by omega)) (fun m x hm hx => km (by omega) hm hx),h.tv.kept hk (kr (by omega)) (fun m x hm hx => km (by omega) hm hx),
   fun j m c hj hm => own_kept2 (h.hw j m c hj hm) hk (fun g hg => key (own_tag (h.hw j m c hj hm) hg) (by decide) (by decide) (by decide)),h.rank.keptX hk (fun h0 => by omega)⟩
theorem Mem.snap2 (h : Mem p K w0 b O G w s) {X : List Nat} (hk : Kept X w w') (f : Fx O O' w w') (hX : ∀ y ∈ X,Tag w y 99 ∨ Tag w y 122 ∨ Tag w y 101) {G' : Gh} {s' : St} (hG : G'.wv = G.wv) (hs : s'.ls = s.ls) : Fy K O O' G G' s s' w w':=by
 refine ⟨f,fun A n l hn => hn.same f (fun g i m c hi hm hg => hk.block g (own_lt2 (h.hw i m c hi hm) hg) (fun hx => ?_)) (fun _ _ _ _ _ => by rw [hG]) (fun _ _ _ => by rw [hs])⟩
 have ht:=own_tag (h.hw i m c hi hm) hg
 rcases hX _ hx with h4 | h4 | h4
 · exact ht.ne h4 (by decide) rfl
 · exact ht.ne h4 (by decide) rfl
 · exact ht.ne h4 (by decide) rfl
theorem Mem.set_queue {q : List Nat} {rA qA : Option Addr} {rc qn qc : Nat} (h : Mem p K w0 b O G w s) (hq : SInO O w qA qn qc (ofNats q)) (hr : SIn w rA 0 rc []) :
   Mem p K w0 b O { G with qA:=qA,qn:=qn,qc:=qc,rA:=rA,rc:=rc } ((w.setCell ⟨b,18,none⟩ (.slice rA 0 rc)).setCell ⟨b,19,none⟩ (.slice qA qn qc)) (s.setQ q) ∧ Fy K O O G { G with qA:=qA,qn:=qn,qc:=qc,rA:=rA,rc:=rc } s (s.setQ q) w ((w.setCell ⟨b,18,none⟩ (.slice rA 0 rc)).setCell ⟨b,19,none⟩ (.slice qA qn qc)):=by
 have hk : Kept [b] w ((w.setCell ⟨b,18,none⟩ (.slice rA 0 rc)).setCell ⟨b,19,none⟩ (.slice qA qn qc)):=((Kept.refl [b] w).set b 18 _ (.inl (by simp))).set b 19 _ (.inl (by simp))
 have f : Fx O O w ((w.setCell ⟨b,18,none⟩ (.slice rA 0 rc)).setCell ⟨b,19,none⟩ (.slice qA qn qc)):=Fx.of hk (by intro x hx;simp at hx;subst hx;exact .inl h.ob) (fun _ h => .inl h)
 have hB:=(h.box.set 18 (.slice rA 0 rc)).set 19 (.slice qA qn qc)
 have hT:=(h.btag.set b 18 (.slice rA 0 rc)).set b 19 (.slice qA qn qc)
 obtain ⟨w2,hw2⟩ : ∃ w2,w2 = (w.setCell ⟨b,18,none⟩ (.slice rA 0 rc)).setCell ⟨b,19,none⟩ (.slice qA qn qc):=⟨_,rfl⟩
 rw [← hw2] at hk f hB hT ⊢
 have hX : ∀ y ∈ [b],Tag w y 99 ∨ Tag w y 122 ∨ Tag w y 101:=by intro y hy;simp at hy;subst hy;exact .inl h.btag
 have S:=h.side2 hk f hX
 have kp : K.pr ∉ [b]:=by simpa using h.ptag.ne h.btag (by decide)
 refine ⟨?_,h.snap2 hk f hX rfl rfl⟩
 exact { h with low:=S.stat.low,og:=fun x hx => ⟨(h.og x hx).1,Nat.lt_of_lt_of_le (h.og x hx).2 f.size⟩,box:=hB,btag:=hT,start:=S.stat.start,out:=S.stat.out,calls:=S.stat.calls,leav:=S.stat.leav,rets:=S.stat.rets,seeds:=S.stat.seeds,entr:=S.stat.entr,entO:=S.stat.entO,ents:=S.stat.ents,tj:=S.tj,tw:=S.tw,tv:=S.tv,hw:=S.hw,prow:=fun m hm => (hk.cell K.pr m h.ptag.lt kp).trans (h.prow m hm),ptag:=h.ptag.same (hk.block _ h.ptag.lt kp),pown:=fun m hm => own_kept2 (h.pown m hm) hk (fun g hg => by simpa using (own_tag (h.pown m hm) hg).ne h.btag (by decide)),queue:=hq.fx f,rank:=⟨⟨rfl,fun h => absurd h (by omega)⟩,hr.2⟩ }
theorem Mem.set_pend {n : Nat} {l : List (Nat × Nat)} {v : Value} {w1 : World} (h : Mem p K w0 b O G w s) (hn : n < K.n1) (hk1 : Kept (G.pv n).ownBlock.toList w w1) (hv : w1.ownsRow w0.heap.size 101 2 v l.length (pcells l))
   (hg : ∀ g,v.ownBlock = some g → (G.pv n).ownBlock = some g ∨ w.heap.size ≤ g) (hl : l.length ≤ s.k 4 + 1) :
   ∃ O' G',Mem p K w0 b O' G' (w1.setCell ⟨K.pr,n,none⟩ v) (s.setP n l) ∧ Fy K O O' G G' s (s.setP n l) w (w1.setCell ⟨K.pr,n,none⟩ v) ∧ ∀ x,O' x → ((G.pv n).ownBlock = some x → v.ownBlock = some x):=by
 have hprw : K.pr < w.heap.size:=h.ptag.lt
 have tP : ∀ g,(G.pv n).ownBlock = some g → Tag w g 101:=fun g hg' => own_tag (h.pown n hn) hg'
 have nP : ∀ g,(G.pv n).ownBlock = some g → g ≠ K.pr:=fun g hg' => (tP g hg').ne h.ptag (by decide)
 have pN : K.pr ∉ (G.pv n).ownBlock.toList:=fun hm => nP K.pr (by simpa using hm) rfl
 have hk : Kept (K.pr :: (G.pv n).ownBlock.toList) w (w1.setCell ⟨K.pr,n,none⟩ v):=(keptWide hk1 (fun x hx => List.mem_cons_of_mem _ hx)).set K.pr n v (.inl (by simp))
 have hXm : ∀ y,y ∈ K.pr :: (G.pv n).ownBlock.toList → y = K.pr ∨ (G.pv n).ownBlock = some y:=fun y hy => by
   rcases List.mem_cons.1 hy with h2 | h2
   · exact .inl h2
   · exact .inr (by simpa using h2)
 have nX : ∀ y,y ≠ K.pr → (∀ z,(G.pv n).ownBlock = some z → y ≠ z) → y ∉ K.pr :: (G.pv n).ownBlock.toList:=fun y h1 h2 hy => by
   rcases hXm y hy with h3 | h3
   · exact h1 h3
   · exact h2 y h3 rfl
 have hvP : ∀ g,v.ownBlock = some g → g ≠ K.pr:=fun g hg' => by
   rcases hg g hg' with h2 | h2
   · exact nP g h2
   · omega
 have hX : ∀ y ∈ K.pr :: (G.pv n).ownBlock.toList,Tag w y 99 ∨ Tag w y 122 ∨ Tag w y 101:=fun y hy => by
   rcases hXm y hy with rfl | h2
   · exact .inr (.inl h.ptag)
   · exact .inr (.inr (tP y h2))
 have f : Fx O (fun x => (O x ∧ (G.pv n).ownBlock ≠ some x) ∨ v.ownBlock = some x) w (w1.setCell ⟨K.pr,n,none⟩ v):=Fx.of hk (fun x hx => by
   rcases hXm x hx with rfl | h2
   · exact .inl h.opr
   · exact .inl (h.opv n x hn h2)) (fun x hx => by
   rcases hx with hx | hx
   · exact .inl hx.1
   · rcases hg x hx with h2 | h2
     · exact .inl (h.opv n x hn h2)
     · exact .inr h2)
 have S:=h.side2 hk f hX
 have hpr1 : w1.cell? ⟨K.pr,n,none⟩ = some (G.pv n):=(hk1.cell K.pr n hprw pN).trans (h.prow n hn)
 have hkS : Kept [K.pr] w1 (w1.setCell ⟨K.pr,n,none⟩ v):=(Kept.refl [K.pr] w1).set K.pr n v (.inl (by simp))
 have tO : ∀ x t,O x → Tag w x t → t ≠ 101 → (O x ∧ (G.pv n).ownBlock ≠ some x) ∨ v.ownBlock = some x:=fun x t h1 h2 h3 => .inl ⟨h1,fun e => h2.ne (tP x e) h3 rfl⟩
 have mO : ∀ x,O x → (∃ es cl,w.heap[x]? = some (.map es cl)) → (O x ∧ (G.pv n).ownBlock ≠ some x) ∨ v.ownBlock = some x:=fun x h1 h2 => .inl ⟨h1,fun e => (tP x e).ne_map h2 rfl⟩
 refine ⟨fun x => (O x ∧ (G.pv n).ownBlock ≠ some x) ∨ v.ownBlock = some x,{ G with pv:=fun i => if i = n then v else G.pv i },?_,h.snap2 hk f hX rfl rfl,fun x hx hx2 => ?_⟩
 · refine { h with low:=S.stat.low,og:=?_,ob:=tO b _ h.ob h.btag (by decide),box:=hk.blk (nX b (h.btag.ne h.ptag (by decide)) (fun z hz => h.btag.ne (tP z hz) (by decide))) h.box,btag:=h.btag.same (hk.block b h.btag.lt (nX b (h.btag.ne h.ptag (by decide)) (fun z hz => h.btag.ne (tP z hz) (by decide)))),start:=S.stat.start,out:=S.stat.out,calls:=S.stat.calls,leav:=S.stat.leav,rets:=S.stat.rets,seeds:=S.stat.seeds,entr:=S.stat.entr,entO:=S.stat.entO,ents:=S.stat.ents,tj:=S.tj,tw:=S.tw,tv:=S.tv,hw:=S.hw,otr:=fun j hj => tO _ _ (h.otr j hj) (h.rtag hj) (by unfold rowT;(repeat' split) <;> decide),opr:=tO _ _ h.opr h.ptag (by decide),om:=fun j l x hj hl hx => mO x (h.om j l x hj hl hx) (h.mobj hj hl hx),ow:=fun j m c x hj hm hx => tO x _ (h.ow j m c x hj hm hx) (own_tag (h.hw j m c hj hm) hx) (by decide),opv:=?_,prow:=?_,ptag:=(h.ptag.same (hk1.block _ hprw pN)).set K.pr n v,pown:=?_,dpp:=?_,queue:=h.queue.fx f,rank:=S.rank,cb:=fun i m hi hm => ?_,pb:=?_ }
   · intro x hx
     rcases hx with hx | hx
     · exact ⟨(h.og x hx.1).1,Nat.lt_of_lt_of_le (h.og x hx.1).2 f.size⟩
     · have h1:=own_lt2 hv hx
       refine ⟨?_,by simpa [World.setCell] using h1⟩
       rcases hg x hx with h2 | h2
       · exact (h.og x (h.opv n x hn h2)).1
       · have:=h.low.size;omega
   · intro i x hi hx
     by_cases e : i = n
     · subst e
       simp only [if_true] at hx
       exact .inr hx
     · simp only [if_neg e] at hx
       exact .inl ⟨h.opv i x hi hx,fun e2 => e (h.dpp i n x hi hn hx e2)⟩
   · intro i hi
     by_cases e : i = n
     · subst e
       simp only [if_true]
       exact set_same hpr1
     · simp only [if_neg e]
       rw [set_other (.inr (fun h => e h.symm))]
       exact (hk1.cell K.pr i hprw pN).trans (h.prow i hi)
   · intro i hi
     by_cases e : i = n
     · subst e
       have : (s.setP i l).pd i = l:=if_pos rfl
       simp only [if_true,this]
       exact own_kept2 hv hkS (fun g hg' => by simpa using hvP g hg')
     · have : (s.setP n l).pd i = s.pd i:=if_neg e
       simp only [if_neg e,this]
       exact own_kept2 (h.pown i hi) hk (fun g hg' => nX g ((own_tag (h.pown i hi) hg').ne h.ptag (by decide)) (fun z hz e2 => e (h.dpp i n g hi hn hg' (e2 ▸ hz))))
   · intro i j x hi hj hx hy
     by_cases e : i = n
     · by_cases e' : j = n
       · omega
       · subst e
         simp only [if_true] at hx
         simp only [if_neg e'] at hy
         rcases hg x hx with h2 | h2
         · exact h.dpp i j x hi hj h2 hy
         · have:=(h.og x (h.opv j x hj hy)).2;omega
     · simp only [if_neg e] at hx
       by_cases e' : j = n
       · subst e'
         simp only [if_true] at hy
         rcases hg x hy with h2 | h2
         · exact h.dpp i j x hi hj hx h2
         · have:=(h.og x (h.opv i x hi hx)).2;omega
       · simp only [if_neg e'] at hy
         exact h.dpp i j x hi hj hx hy
   · have h1:=h.cb i m hi hm
     show G.c i m ≤ bump s.k 4 i
     unfold bump
     rw [if_neg (by omega)]
     exact h1
   · intro i hi
     have h1:=h.pb i hi
     show (if i = n then l else s.pd i).length ≤ bump s.k 4 4
     unfold bump
     rw [if_pos rfl]
     split
     · exact hl
     · omega
 · rcases hx with hx | hx
   · exact absurd hx2 hx.2
   · exact hx
end
end Go.Proofs.YtincpmdldpakkaaGreatDoor
namespace Go.Df
open Go.RowKit
theorem Rd.new2 (w : World) (b : Nat) (u0 u1 : Value) (t : TypeId) (hb : b = w.heap.size) : Rd (w.alloc (.cells #[u0,u1] t)) 2 (some ⟨b,0,none⟩) 1 [u0,u1]:=by
 subst hb
 refine ⟨rfl,fun _ => ⟨_,_,rfl,by simp,fun j _ => ?_⟩⟩
 rw [World.cell?_alloc_new,Nat.zero_add];simp
end Go.Df
namespace Go.Proofs.YtincpmdldpakkaaGreatDoor
open Go.RowKit Go.Df Go.Df.Iv Go.Df.Sp
theorem pair_info : (Tryz.prog.info? 101).map (fun i => (i.zero,i.size,i.bytes)) = some (some (.agg #[.int .i64 0,.int .i64 0]),2,16):=by kernel_rfl
theorem nodup_le {q : List Nat} {N : Nat} (hq : q.Nodup) (hN : ∀ x ∈ q,x < N) : q.length ≤ N:=by
 have h1:=List.Nodup.length_le_of_subset hq (l₂:=List.range N) (fun x hx => List.mem_range.2 (hN x hx))
 rwa [List.length_range] at h1
theorem nodup_lt {q : List Nat} {N n : Nat} (hq : q.Nodup) (hN : ∀ x ∈ q,x < N) (hn : n ∉ q) (hnN : n < N) : q.length < N:=by
 have h1:=nodup_le (q:=n :: q) (N:=N) (List.nodup_cons.2 ⟨hn,hq⟩) (fun x hx => by
   rcases List.mem_cons.1 hx with rfl | hx
   · exact hnN
   · exact hN x hx)
 simp at h1;omega
theorem gi_ofNats {l : List Nat} {i : Nat} (h : i < l.length) : gi (ofNats l) i = (l[i] : Int):=by rw [gi_lt (by simpa [ofNats] using h)];simp [ofNats]
theorem wl_ok {q : List Nat} {N : Nat} (hq : q.Nodup) (hN : ∀ x ∈ q,x < N) (h8 : N ≤ 8192) : Wl.chk [] (ofNats q) = 0:=by
 have hlen : q.length ≤ N:=nodup_le hq hN
 refine Wl.chk_ok (by simp) (by rw [ofNats_len];omega) (fun j hj => ?_)
 rw [ofNats_len] at hj
 unfold Wl.err
 rw [gi_ofNats hj]
 have h1 : Wl.allowed 0 (q[j] : Int) = true:=by
   have:=hN _ (List.getElem_mem hj)
   unfold Wl.allowed
   simp
   omega
 simp only [List.length_nil]
 rw [h1]
 have h2 : ¬ ((q[j] : Int) ∈ (ofNats q).take j):=by
   intro hm
   unfold ofNats at hm
   rw [← List.map_take,List.mem_map] at hm
   obtain ⟨y,hy,e⟩:=hm
   have e : y = q[j]:=by omega
   subst e
   obtain ⟨i,hi,e⟩:=List.getElem_of_mem hy
   rw [List.length_take] at hi
   rw [List.getElem_take] at e
   exact List.pairwise_iff_getElem.1 hq i j (by omega) hj (by omega) e
 simp [h2]
theorem wl_perr {q : List Nat} {N n : Nat} (hq : q.Nodup) (hN : ∀ x ∈ q,x < N) (h8 : N ≤ 8192) (hn : n < N) (hl : q.length < N) : Wl.perr [] (ofNats q) n = 0:=by
 have h1:=wl_ok hq hN h8
 have hal : Wl.allowed 0 (n : Int) = true:=by unfold Wl.allowed;simp;omega
 unfold Wl.perr
 rw [if_neg (by rw [h1];simp),if_neg (by rw [List.length_nil,hal];simp),if_neg (by rw [ofNats_len];rintro ⟨-,h9⟩;omega)]
section
variable {p : Vb} {K : Kn} {w0 : World} {b : Nat} {O O' : Nat → Prop} {G : Gh} {w w' : World} {s : St}
def GetS (p : Vb) (K : Kn) (w0 : World) (b : Nat) (O : Nat → Prop) (G : Gh) (w : World) (s s' : St) (e : Ending) (w' : World) : Prop:=∃ O' G',e = .returned (.tuple #[]) ∧ Mem p K w0 b O' G' w' s' ∧ Fy K O O' G G' s s' w w'
theorem Mem.fresh (h : Mem p K w0 b O G w s) {x : Nat} (hx : w.heap.size ≤ x) (hl : x < w'.heap.size) : SafeB O w' x:=⟨hl,fun ho => by have:=(h.og x ho).2;omega⟩
theorem Mem.set_nil {n : Nat} (h : Mem p K w0 b O G w s) (hn : n < K.n1) :
   ∃ O' G',Mem p K w0 b O' G' (w.setCell ⟨K.pr,n,none⟩ (.slice none 0 0)) ⟨s.T,s.ls,s.V,fun n' => if n' = n then [] else s.pd n',s.q,s.k⟩ ∧ Fy K O O' G G' s ⟨s.T,s.ls,s.V,fun n' => if n' = n then [] else s.pd n',s.q,s.k⟩ w (w.setCell ⟨K.pr,n,none⟩ (.slice none 0 0)) ∧ ∀ x,O' x → (G.pv n).ownBlock ≠ some x:=by
 obtain ⟨O',G',h1,h2,h3⟩:=h.set_pend (l:=[]) (v:=.slice none 0 0) hn (keptWide (Kept.refl [] w) (fun x hx => by simp at hx)) ⟨rfl,.inl ⟨rfl,rfl⟩⟩ (fun g hg => by cases hg) (Nat.zero_le _)
 refine ⟨O',G',{ h1 with cb:=fun i m hi hm => ?_,pb:=fun m hm => ?_ },⟨h2.fx,fun A n l hs => h2.sn A n l hs⟩,fun x hx he => ?_⟩
 · have h4:=h1.cb i m hi hm
   have h5 : (s.setP n []).k i = s.k i:=by show bump s.k 4 i = s.k i;unfold bump;rw [if_neg (by omega)]
   rw [h5] at h4
   exact h4
 · have h4:=h.pb m hm
   show (if m = n then [] else s.pd m).length ≤ s.k 4
   split
   · exact Nat.zero_le _
   · exact h4
 · have:=h3 x hx he
   cases this
end
end Go.Proofs.YtincpmdldpakkaaGreatDoor
namespace Go.Proofs.YtincpmdldpakkaaGreatDoor
open Go.RowKit Go.Df Go.Df.Iv Go.Df.Sp
attribute [local go_sem ↓] Go.wp_at_zero Go.wp_at_succ
set_option maxRecDepth 100000 in
set_option maxHeartbeats 40000000 in
theorem push_any {p : Vb} {K : Kn} {w0 : World} {b : Nat} {O : Nat → Prop} {G : Gh} {s : St} (w : World) (n a d : Nat) (hm : Mem p K w0 b O G w s) (hnK : n < K.n1) (hN2 : K.n1 ≤ 8192) (hqn : s.q.Nodup) (hqp : ∀ x,x ∈ s.q ↔ s.pd x ≠ []) (hql : ∀ x ∈ s.q,x < K.n1) (hk4 : s.k 4 ≤ 1000000) :
   Calls Tryz.prog 136 #[.pointer (some ⟨b,0,none⟩),.int .i64 n,.agg #[.int .i64 a,.int .i64 d]] w (GetS p K w0 b O G w s ((s.setQ (if s.pd n = [] then s.q ++ [n] else s.q)).setP n (s.pd n ++ [(a,d)]))):=by
 obtain ⟨s',hs'⟩ : ∃ s',s' = (s.setQ (if s.pd n = [] then s.q ++ [n] else s.q)).setP n (s.pd n ++ [(a,d)]):=⟨_,rfl⟩
 rw [← hs']
 have HS:=Lib.hid hs'
 clear hs'
 obtain ⟨i0,hi,hz0,hz1,hz2⟩:=info_parts pair_info
 have hnK' : (n : Int) < (K.n1 : Int):=by omega
 have HM:=Lib.hid hm
 have HQ1:=Lib.hid hqn
 have HQ2:=Lib.hid hqp
 have HQ3:=Lib.hid hql
 clear hm hqn hqp hql
 go_enter Tryz.func136,Tryz.ntmps136
 go_upto_region 1 with fail
 refine wp_named (fun W => ∃ b0,w.heap.size = b0 ∧ Blk W b0 [.int .i64 a,.int .i64 d] ∧ Below w.heap.size w W) ⟨_,rfl,?_,?_⟩ ?_
 · exact kbn
 · go_grown
 rintro W ⟨b0,e0,B0,hB⟩
 rw [e0]
 have G0 : w.heap.size ≤ b0:=by omega
 clear e0
 have ⟨L0,C0,F0⟩:=B0
 have M1:=Lib.hid (HM.out.call hB)
 have F1 : Fy K O O G G s s w W:=Fy.kept K O G s ((Kept.refl _ _).call hB)
 have S0 : SafeB O W b0:=HM.out.fresh G0 L0
 have Bs:=M1.out.box
 unfold sbox at Bs
 have ⟨LB,CB,FB⟩:=Bs
 have hpr1 : K.pr < W.heap.size:=M1.out.ptag.lt
 obtain ⟨A5,m5,c5,hpv5,hm5⟩ : ∃ A9 m9 c9,G.pv n = .slice A9 m9 c9 ∧ m9 = (s.pd n).length:=by
   rcases (M1.out.pown n hnK).2 with ⟨h1,h2⟩ | ⟨g,cap,cur,h1,_⟩
   · exact ⟨_,_,_,h1,h2.symm⟩
   · exact ⟨_,_,_,h1,rfl⟩
 have r1 : W.cell? ⟨K.pr,n,none⟩ = some (.slice A5 m5 c5):=by rw [← hpv5];exact M1.out.prow n hnK
 clear hpv5
 by_cases hp0 : m5 = 0
 · -- the node comes into the queue
   subst hp0
   have hpd : s.pd n = []:=List.eq_nil_of_length_eq_zero hm5.symm
   have HEQ : Hid (s' = (s.setQ (s.q ++ [n])).setP n ((s.setQ (s.q ++ [n])).pd n ++ [(a,d)])):=by show _ = _;rw [HS.out,if_pos hpd];rfl
   have hnq : n ∉ s.q:=fun hm => (HQ2.out n).1 hm hpd
   have hqlen : s.q.length < K.n1:=nodup_lt HQ1.out HQ3.out hnq hnK
   have HPE:=Lib.hid (wl_perr HQ1.out HQ3.out hN2 hnK hqlen)
   have HNM : Hid ((n : Int) ∉ ofNats s.q):=by
     show ¬ _
     intro hm
     unfold ofNats at hm
     rw [List.mem_map] at hm
     obtain ⟨y,hy,e⟩:=hm
     exact hnq (by have e : y = n := by omega
                   rw [← e];exact hy)
   have HINS : Hid (Wl.ins (ofNats s.q) (Wl.place [] (ofNats s.q) n) n = ofNats (s.q ++ [n])):=by
     show _ = _
     unfold Wl.ins Wl.place
     rw [if_neg (by simp),List.take_of_length_le (Nat.le_refl _),List.drop_of_length_le (Nat.le_refl _)]
     simp [ofNats]
   have HQ4:=Lib.hid M1.out.queue
   have HR4:=Lib.hid M1.out.rank
   clear hpd hnq hm5
   go_upto_region 3 with (go_at_call 180;refine (push_new G.rA G.qA 0 G.rc G.qn G.qc [] (ofNats s.q) n _ HR4.out.1 HQ4.out.1.1 (fun _ => rfl) HQ4.out.1.2.2.2 HPE.out HNM.out).mono ?_;rw [HINS.out];rintro e w5 ⟨rA,rn,rc,qA,qn,qc,rfl,hr5,hq5,hb5,hfr5,hfq5⟩)
   obtain rfl : rn = 0:=hr5.1.1.symm
   refine wp_named (fun V => ∃ g,w5.heap.size = g ∧ Blk V g [.slice rA 0 rc,.slice qA qn qc] ∧ Kept [] w5 V) ⟨_,rfl,Blk.new _ _ _ _ rfl,(Kept.refl _ _).alloc _⟩ ?_
   rintro V ⟨g,eg,Bg,hkV⟩
   rw [eg]
   have ⟨Lg,Cg,Fg⟩:=Bg
   have M5:=M1.out.call hb5
   have MV:=Lib.hid (M5.kept hkV)
   have FV : Fy K O O G G s s w V:=(F1.trans (Fy.kept K O G s ((Kept.refl _ _).call hb5))).trans (Fy.kept K O G s hkV)
   have HQV : Hid (SInO O V qA qn qc (ofNats (s.q ++ [n]))):=Lib.hid ((SInO.new (O:=O) hq5 hfq5 (fun x hx => (M1.out.og x hx).2)).fx (.same hkV))
   have HRV : Hid (SIn V rA 0 rc []):=Lib.hid (hr5.kept hkV)
   have BV:=MV.out.box
   unfold sbox at BV
   have ⟨LV,CV,FVb⟩:=BV
   have F1V : Fx O O W V:=(Fx.same ((Kept.refl _ _).call hb5)).trans (.same hkV)
   have SV:=S0.fx F1V
   have BV0:=S0.blk F1V B0
   clear CB FB C0 F0 r1 eg HQ4 HR4 hq5 hr5
   go_upto_region 5 with fail
   have hset:=MV.out.set_queue HQV.out HRV.out
   refine wp_named (fun X => Mem p K w0 b O { G with qA:=qA,qn:=qn,qc:=qc,rA:=rA,rc:=rc } X (s.setQ (s.q ++ [n])) ∧ Fy K O O G { G with qA:=qA,qn:=qn,qc:=qc,rA:=rA,rc:=rc } s (s.setQ (s.q ++ [n])) V X) hset ?_
   rintro X ⟨MX',FX'⟩
   have MX:=Lib.hid MX'
   have FXX:=FV.trans FX'
   have SX:=SV.fx FX'.fx
   have ⟨L0X,C0X,F0X⟩:=SV.blk FX'.fx BV0
   obtain ⟨GX,hGX⟩ : ∃ GX,GX = { G with qA:=qA,qn:=qn,qc:=qc,rA:=rA,rc:=rc }:=⟨_,rfl⟩
   obtain ⟨sX,hsX⟩ : ∃ sX,sX = s.setQ (s.q ++ [n]):=⟨_,rfl⟩
   have hk4X : sX.k 4 ≤ 1000000:=by rw [hsX];exact hk4
   rw [← hGX,← hsX] at MX FXX
   rw [← hsX] at HEQ
   clear CV FVb Cg Fg hset MX' FX' hGX hsX
   obtain ⟨A9,m9,c9,hpv9,hm9⟩ : ∃ A9 m9 c9,GX.pv n = .slice A9 m9 c9 ∧ m9 = (sX.pd n).length:=by
     rcases (MX.out.pown n hnK).2 with ⟨h1,h2⟩ | ⟨g,cap,cur,h1,_⟩
     · exact ⟨_,_,_,h1,h2.symm⟩
     · exact ⟨_,_,_,h1,rfl⟩
   have OWN : Hid (X.ownsRow w0.heap.size 101 2 (.slice A9 m9 c9) m9 (pcells (sX.pd n))):=Lib.hid (by have h9:=MX.out.pown n hnK;rw [hpv9,← hm9] at h9;exact h9)
   have BX:=MX.out.box
   unfold sbox at BX
   have ⟨LX,CX,FX⟩:=BX
   have hprX : K.pr < X.heap.size:=MX.out.ptag.lt
   have hbX : b < X.heap.size:=LX
   have rX : X.cell? ⟨K.pr,n,none⟩ = some (.slice A9 m9 c9):=by rw [← hpv9];exact MX.out.prow n hnK
   have fX:=MX.out.ptag.frozen n
   have xb : b ∉ (Value.slice A9 m9 c9).ownBlock.toList:=fun hm => (own_tag (MX.out.pown n hnK) (by rw [hpv9];simpa using hm)).ne MX.out.btag (by decide) rfl
   have xpr : K.pr ∉ (Value.slice A9 m9 c9).ownBlock.toList:=fun hm => (own_tag (MX.out.pown n hnK) (by rw [hpv9];simpa using hm)).ne MX.out.ptag (by decide) rfl
   have x0 : b0 ∉ (Value.slice A9 m9 c9).ownBlock.toList:=fun hm => SX.2 (MX.out.opv n b0 hnK (by rw [hpv9];simpa using hm))
   have hbase : w0.heap.size ≤ X.heap.size:=MX.out.low.size
   have hm9b : m9 ≤ 1000000:=by
     have h1:=MX.out.pb n hnK
     omega
   have HAB : Hid (pcells (sX.pd n ++ [(a,d)]) = pcells (sX.pd n) ++ [.int .i64 a,.int .i64 d]):=Lib.hid (pcells_snoc _ _)
   have HPV:=Lib.hid hpv9
   have HM9:=Lib.hid hm9
   clear hpv9 hm9
   refine wp_region_E 16 (fun w' => SXt (Value.slice A9 m9 c9).ownBlock.toList b K.pr b0 X w') (by kernel_rfl) (by (first | (with_reducible assumption) | exact SXt.of (Kept.refl _ _).drew hbX hprX L0X xb xpr x0 | exact SXt.of (hHeld.1.alloc _) hbX hprX L0X xb xpr x0 | exact SXt.of HKA.out hbX hprX L0X xb xpr x0)) (fun hHeld => ?_)
   refine WE_tk 0 ?_
   refine WE_tk 1 ?_
   refine WE_tk 2 ?_
   refine WE_tk 3 ?_
   refine WE_tk 4 ?_
   refine WE_tk 5 ?_
   refine WE_tk 6 ?_
   refine WE_tk 7 ?_
   refine WE_tk 8 ?_
   refine WE_tk 9 ?_
   refine WE_tk 10 ?_
   refine WE_tk 11 ?_
   refine WE_tk 12 ?_
   refine WE_step 13 rfl (by kernel_rfl) (fun K hK => ?_)
   go_simp
   refine hK.out _ _ ?_ (fun hHeld => ?_)
   · (first | (with_reducible assumption) | exact SXt.of (Kept.refl _ _).drew hbX hprX L0X xb xpr x0 | exact SXt.of (hHeld.1.alloc _) hbX hprX L0X xb xpr x0 | exact SXt.of HKA.out hbX hprX L0X xb xpr x0)
   clear hK K
   refine WE_put ?_
   refine WE_step 14 rfl (by kernel_rfl) (fun K hK => ?_)
   (refine step_append_rd _ rfl _ _ 122 rfl w0.heap.size 101 i0 (.agg #[.int .i64 0,.int .i64 0]) 2 16 Tryz.underlying122 hi hz0 hz1 hz2 rfl (by decide) (.slice A9 m9 c9) m9 _ rfl (own_kept2 (X:=[]) OWN.out (((Kept.refl [] X).drew).alloc _) (by simp)) (some ⟨X.heap.size,0,none⟩) 1 1 [.int .i64 a,.int .i64 d] rfl (Rd.new2 _ _ _ _ _ rfl) (fun h => by cases h) (by intro u hu;simp only [List.mem_cons,List.not_mem_nil,or_false] at hu;rcases hu with rfl | rfl <;> rfl) (m9 + 1) rfl _ HAB.out.symm (by unfold maxLen;omega) (by omega) (by simp;omega) ?_;intro A8 c8 w8 hown8 hk8 hat8;have hkA : Kept (Value.slice A9 m9 c9).ownBlock.toList X w8:=(((Kept.refl _ X).drew).alloc _).next hk8 (fun y hy => Or.inl hy);have fX8:=(hkA.frozen _ n hprX xpr).trans fX;have HO8:=Lib.hid hown8;have HKA:=Lib.hid hkA;have HAT:=Lib.hid hat8;clear hown8 hk8 hat8)
   refine hK.out _ _ ?_ (fun hHeld => ?_)
   · (first | (with_reducible assumption) | exact SXt.of (Kept.refl _ _).drew hbX hprX L0X xb xpr x0 | exact SXt.of (hHeld.1.alloc _) hbX hprX L0X xb xpr x0 | exact SXt.of HKA.out hbX hprX L0X xb xpr x0)
   clear hK K
   refine WE_put ?_
   refine WE_tk 15 ?_
   refine WE_last rfl (by kernel_rfl) (fun K hK => ?_)
   go_simp
   refine hK.out _ _ ?_
   clear hK K
   go_wp2_with fail
   go_end0
   have hl8 : (sX.pd n ++ [(a,d)]).length = m9 + 1:=by rw [List.length_append,HM9.out];rfl
   obtain ⟨O9,G9,M9,F9,-⟩:=MX.out.set_pend (w1:=w8) (v:=.slice A8 (m9 + 1) c8) (l:=sX.pd n ++ [(a,d)]) hnK (by rw [HPV.out];exact HKA.out) (by rw [hl8];exact HO8.out) (by rw [HPV.out];intro g hg;rcases HAT.out g hg with h1 | h1;(· exact .inl h1);(· right;rw [h1];simp)) (by
     have h1:=MX.out.pb n hnK
     rw [hl8,HM9.out]
     omega)
   have F9':=FXX.trans F9
   rw [← HEQ.out] at F9'
   exact ⟨O9,G9,rfl,M9.eq HEQ.out.symm,F9'⟩
 · have hpd : s.pd n ≠ []:=fun h => hp0 (by rw [hm5,h];rfl)
   have HEQ : Hid (s' = s.setP n (s.pd n ++ [(a,d)])):=by show _ = _;rw [HS.out,if_neg hpd];rfl
   have hp1 : ((m5 : Int) == 0) = false:=by simp;omega
   have hp2 : (m5 == 0) = false:=by simp;omega
   clear hpd hp0 hm5
   go_upto_region 5 with fail
   refine wp_named (fun X => Mem p K w0 b O G X s ∧ Kept [] W X) ⟨by first | exact M1.out | exact M1.out.call (drewN_below _ _ _),by first | exact Kept.refl _ _ | exact (Kept.refl _ _).drewN _⟩ ?_
   rintro X ⟨MX',hkX⟩
   have MX:=Lib.hid MX'
   have FXX:=F1.trans (Fy.kept K O G s hkX)
   have SX:=S0.fx (Fx.same (O:=O) hkX)
   have ⟨L0X,C0X,F0X⟩:=S0.blk (Fx.same (O:=O) hkX) B0
   obtain ⟨GX,hGX⟩ : ∃ GX,GX = G:=⟨_,rfl⟩
   obtain ⟨sX,hsX⟩ : ∃ sX,sX = s:=⟨_,rfl⟩
   have hk4X : sX.k 4 ≤ 1000000:=by rw [hsX];exact hk4
   have HEQ2 : Hid (s.setP n (s.pd n ++ [(a,d)]) = sX.setP n (sX.pd n ++ [(a,d)])):=by show _ = _;rw [hsX]
   rw [HEQ2.out] at HEQ
   have MX : Hid (Mem p K w0 b O GX X sX):=by rw [hGX,hsX];exact MX
   have FXX : Fy K O O G GX s sX w X:=by rw [hGX,hsX];exact FXX
   clear CB FB C0 F0 r1 MX' hGX hsX HEQ2
   obtain ⟨A9,m9,c9,hpv9,hm9⟩ : ∃ A9 m9 c9,GX.pv n = .slice A9 m9 c9 ∧ m9 = (sX.pd n).length:=by
     rcases (MX.out.pown n hnK).2 with ⟨h1,h2⟩ | ⟨g,cap,cur,h1,_⟩
     · exact ⟨_,_,_,h1,h2.symm⟩
     · exact ⟨_,_,_,h1,rfl⟩
   have OWN : Hid (X.ownsRow w0.heap.size 101 2 (.slice A9 m9 c9) m9 (pcells (sX.pd n))):=Lib.hid (by have h9:=MX.out.pown n hnK;rw [hpv9,← hm9] at h9;exact h9)
   have BX:=MX.out.box
   unfold sbox at BX
   have ⟨LX,CX,FX⟩:=BX
   have hprX : K.pr < X.heap.size:=MX.out.ptag.lt
   have hbX : b < X.heap.size:=LX
   have rX : X.cell? ⟨K.pr,n,none⟩ = some (.slice A9 m9 c9):=by rw [← hpv9];exact MX.out.prow n hnK
   have fX:=MX.out.ptag.frozen n
   have xb : b ∉ (Value.slice A9 m9 c9).ownBlock.toList:=fun hm => (own_tag (MX.out.pown n hnK) (by rw [hpv9];simpa using hm)).ne MX.out.btag (by decide) rfl
   have xpr : K.pr ∉ (Value.slice A9 m9 c9).ownBlock.toList:=fun hm => (own_tag (MX.out.pown n hnK) (by rw [hpv9];simpa using hm)).ne MX.out.ptag (by decide) rfl
   have x0 : b0 ∉ (Value.slice A9 m9 c9).ownBlock.toList:=fun hm => SX.2 (MX.out.opv n b0 hnK (by rw [hpv9];simpa using hm))
   have hbase : w0.heap.size ≤ X.heap.size:=MX.out.low.size
   have hm9b : m9 ≤ 1000000:=by
     have h1:=MX.out.pb n hnK
     omega
   have HAB : Hid (pcells (sX.pd n ++ [(a,d)]) = pcells (sX.pd n) ++ [.int .i64 a,.int .i64 d]):=Lib.hid (pcells_snoc _ _)
   have HPV:=Lib.hid hpv9
   have HM9:=Lib.hid hm9
   clear hpv9 hm9
   refine wp_region_E 16 (fun w' => SXt (Value.slice A9 m9 c9).ownBlock.toList b K.pr b0 X w') (by kernel_rfl) (by (first | (with_reducible assumption) | exact SXt.of (Kept.refl _ _).drew hbX hprX L0X xb xpr x0 | exact SXt.of (hHeld.1.alloc _) hbX hprX L0X xb xpr x0 | exact SXt.of HKA.out hbX hprX L0X xb xpr x0)) (fun hHeld => ?_)
   refine WE_tk 0 ?_
   refine WE_tk 1 ?_
   refine WE_tk 2 ?_
   refine WE_tk 3 ?_
   refine WE_tk 4 ?_
   refine WE_tk 5 ?_
   refine WE_tk 6 ?_
   refine WE_tk 7 ?_
   refine WE_tk 8 ?_
   refine WE_tk 9 ?_
   refine WE_tk 10 ?_
   refine WE_tk 11 ?_
   refine WE_tk 12 ?_
   refine WE_step 13 rfl (by kernel_rfl) (fun K hK => ?_)
   go_simp
   refine hK.out _ _ ?_ (fun hHeld => ?_)
   · (first | (with_reducible assumption) | exact SXt.of (Kept.refl _ _).drew hbX hprX L0X xb xpr x0 | exact SXt.of (hHeld.1.alloc _) hbX hprX L0X xb xpr x0 | exact SXt.of HKA.out hbX hprX L0X xb xpr x0)
   clear hK K
   refine WE_put ?_
   refine WE_step 14 rfl (by kernel_rfl) (fun K hK => ?_)
   (refine step_append_rd _ rfl _ _ 122 rfl w0.heap.size 101 i0 (.agg #[.int .i64 0,.int .i64 0]) 2 16 Tryz.underlying122 hi hz0 hz1 hz2 rfl (by decide) (.slice A9 m9 c9) m9 _ rfl (own_kept2 (X:=[]) OWN.out (((Kept.refl [] X).drew).alloc _) (by simp)) (some ⟨X.heap.size,0,none⟩) 1 1 [.int .i64 a,.int .i64 d] rfl (Rd.new2 _ _ _ _ _ rfl) (fun h => by cases h) (by intro u hu;simp only [List.mem_cons,List.not_mem_nil,or_false] at hu;rcases hu with rfl | rfl <;> rfl) (m9 + 1) rfl _ HAB.out.symm (by unfold maxLen;omega) (by omega) (by simp;omega) ?_;intro A8 c8 w8 hown8 hk8 hat8;have hkA : Kept (Value.slice A9 m9 c9).ownBlock.toList X w8:=(((Kept.refl _ X).drew).alloc _).next hk8 (fun y hy => Or.inl hy);have fX8:=(hkA.frozen _ n hprX xpr).trans fX;have HO8:=Lib.hid hown8;have HKA:=Lib.hid hkA;have HAT:=Lib.hid hat8;clear hown8 hk8 hat8)
   refine hK.out _ _ ?_ (fun hHeld => ?_)
   · (first | (with_reducible assumption) | exact SXt.of (Kept.refl _ _).drew hbX hprX L0X xb xpr x0 | exact SXt.of (hHeld.1.alloc _) hbX hprX L0X xb xpr x0 | exact SXt.of HKA.out hbX hprX L0X xb xpr x0)
   clear hK K
   refine WE_put ?_
   refine WE_tk 15 ?_
   refine WE_last rfl (by kernel_rfl) (fun K hK => ?_)
   go_simp
   refine hK.out _ _ ?_
   clear hK K
   go_wp2_with fail
   go_end0
   have hl8 : (sX.pd n ++ [(a,d)]).length = m9 + 1:=by rw [List.length_append,HM9.out];rfl
   obtain ⟨O9,G9,M9,F9,-⟩:=MX.out.set_pend (w1:=w8) (v:=.slice A8 (m9 + 1) c8) (l:=sX.pd n ++ [(a,d)]) hnK (by rw [HPV.out];exact HKA.out) (by rw [hl8];exact HO8.out) (by rw [HPV.out];intro g hg;rcases HAT.out g hg with h1 | h1;(· exact .inl h1);(· right;rw [h1];simp)) (by
     have h1:=MX.out.pb n hnK
     rw [hl8,HM9.out]
     omega)
   have F9':=FXX.trans F9
   rw [← HEQ.out] at F9'
   exact ⟨O9,G9,rfl,M9.eq HEQ.out.symm,F9'⟩
end Go.Proofs.YtincpmdldpakkaaGreatDoor
