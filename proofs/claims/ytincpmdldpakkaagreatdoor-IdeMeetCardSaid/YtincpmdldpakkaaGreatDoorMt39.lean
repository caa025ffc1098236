/- Texts: Ht Hu Hv Hw Hs. -/
import Derived.Test.YtincpmdldpakkaaGreatDoorMt06
import Derived.Test.YtincpmdldpakkaaGreatDoorMt38
import Derived.Test.YtincpmdldpakkaaGreatDoorMt07
namespace Go.Proofs.YtincpmdldpakkaaGreatDoor
open Go.RowKit Go.Df
attribute [local go_sem ↓] Go.wp_at_zero Go.wp_at_succ
def oneN : List Sp.Nd:=[⟨0,1,-1⟩,⟨0,2,0⟩,⟨0,2,1⟩,⟨0,3,-1⟩,⟨0,4,-1⟩]
def oneE : List Sp.Ed:=[⟨0,1,1,-1⟩,⟨1,2,1,-1⟩,⟨2,3,1,-1⟩]
def oneL : List (List Sp.Xp):=[[⟨0,0,2,0,0⟩,⟨0,1,1,0,5⟩],[⟨0,0,2,0,0⟩,⟨1,1,2,2,0⟩],[⟨0,0,2,0,0⟩]]
theorem xrow_info : (Tryz.prog.info? 76).map (fun i => (i.zero,i.size,i.bytes)) = some (some (.slice none 0 0),1,24):=by kernel_rfl
theorem xps2 {w : World} {b : Nat} {x y : Sp.Xp} (h : Blk w b [.int .i64 x.i,.int .i64 x.o,.int .i64 x.k,.int .i64 x.b,.int .i64 x.c,.int .i64 y.i,.int .i64 y.o,.int .i64 y.k,.int .i64 y.b,.int .i64 y.c]) : Xps w (some ⟨b,0,none⟩) 2 [x,y]:=by
 refine ⟨rfl,fun _ => ⟨b,0,rfl,h.1,fun i hi => ?_⟩⟩
 match i,hi with
 | 0,_ => exact ⟨h.2.1 0,h.2.1 1,h.2.1 2,h.2.1 3,h.2.1 4⟩
 | 1,_ => exact ⟨h.2.1 5,h.2.1 6,h.2.1 7,h.2.1 8,h.2.1 9⟩
theorem xps1 {w : World} {b : Nat} {x : Sp.Xp} (h : Blk w b [.int .i64 x.i,.int .i64 x.o,.int .i64 x.k,.int .i64 x.b,.int .i64 x.c]) : Xps w (some ⟨b,0,none⟩) 1 [x]:=by
 refine ⟨rfl,fun _ => ⟨b,0,rfl,h.1,fun i hi => ?_⟩⟩
 match i,hi with
 | 0,_ => exact ⟨h.2.1 0,h.2.1 1,h.2.1 2,h.2.1 3,h.2.1 4⟩
set_option maxRecDepth 100000 in
set_option maxHeartbeats 8000000 in
theorem one33_any (w : World) : Calls Tryz.prog 39 #[] w fun e w' => ∃ A1 A2 A3 c3,e = .returned (.agg #[.slice A1 5 5,.slice A2 3 3,.int .i64 0,.int .i64 2,.slice A3 3 c3,.slice none 0 0]) ∧ Gr w' A1 5 A2 3 oneN oneE ∧ Fls w' A3 3 oneL ∧ (∀ b o i A n c,A3 = some ⟨b,o,none⟩ → i < 3 → w'.cell? ⟨b,o + i,none⟩ = some (.slice A n c) → n ≤ c) ∧ Below w.heap.size w w':=by
 obtain ⟨i0,hi,hz0,hz1,hz2⟩:=info_parts xrow_info
 go_enter Tryz.func39,Tryz.ntmps39
 go_upto_region 5 with fail
 refine wp_named (fun V => ∃ r0 bn be z p,w.heap.size = r0 ∧ w.heap.size + 1 = bn ∧ w.heap.size + 1 + 1 + 1 = be ∧ w.heap.size + 1 + 1 + 1 + 1 = z ∧ w.heap.size + 1 + 1 + 1 + 1 + 1 = p ∧ Blk V r0 [.slice none 0 0,.slice none 0 0,.int .i64 0,.int .i64 0,.slice none 0 0,.slice none 0 0] ∧ Blk V bn [.int .i64 0,.int .i64 1,.int .i64 (-1),.int .i64 0,.int .i64 2,.int .i64 0,.int .i64 0,.int .i64 2,.int .i64 1,.int .i64 0,.int .i64 3,.int .i64 (-1),.int .i64 0,.int .i64 4,.int .i64 (-1)] ∧ Blk V be [.int .i64 0,.int .i64 1,.int .i64 1,.int .i64 (-1),.int .i64 1,.int .i64 2,.int .i64 1,.int .i64 (-1),.int .i64 2,.int .i64 3,.int .i64 1,.int .i64 (-1)] ∧ Blk V z [.int .i64 0,.int .i64 0,.int .i64 2,.int .i64 0,.int .i64 0] ∧ Blk V p [.slice (some ⟨bn,0,none⟩) 5 5,.slice (some ⟨be,0,none⟩) 3 3,.int .i64 0,.int .i64 2,.slice none 0 0,.slice none 0 0] ∧ Kept [] w V) ⟨_,_,_,_,_,rfl,rfl,rfl,rfl,rfl,?_,?_,?_,?_,?_,?_⟩ ?_
 iterate 5 (· repeat' first | ((with_reducible refine Blk.new _ _ _ _ ?_);simp;done) | (with_reducible refine Blk.alloc ?_ _) | ((with_reducible refine Blk.setOther ?_ _ _ _ ?_);rotate_left;(· simp;done)))
 · repeat' first | (with_reducible exact Kept.refl _ _) | (with_reducible refine Kept.alloc ?_ _) | ((with_reducible refine Kept.set ?_ _ _ _ (Or.inr ?_));rotate_left;(· simp;omega))
 rintro W0 ⟨r0,bn,be,z,p,e0,e1,e2,e3,e4,br,bn',be',bz,BP0,hkw0⟩
 have G0 : w.heap.size ≤ r0 ∧ w.heap.size ≤ bn ∧ w.heap.size ≤ be ∧ w.heap.size ≤ z ∧ w.heap.size ≤ p ∧ r0 ≠ p ∧ bn ≠ p ∧ be ≠ p ∧ z ≠ p ∧ bn ≠ r0 ∧ be ≠ r0:=by omega
 have HG:=Lib.hid G0
 rw [e4,e3,e2,e1,e0]
 have BR0:=Lib.hid br
 have BN0:=Lib.hid bn'
 have BE0:=Lib.hid be'
 have BZ0:=bz
 have LTS : r0 < W0.heap.size ∧ bn < W0.heap.size ∧ be < W0.heap.size ∧ z < W0.heap.size ∧ p < W0.heap.size:=⟨br.1,bn'.1,be'.1,bz.1,BP0.1⟩
 have HLT:=Lib.hid LTS
 clear G0 LTS br bn' be' bz e0 e1 e2 e3 e4
 have OWN0 : Hid (W0.ownsRow W0.heap.size 76 1 (.slice none 0 0) 0 []):=Lib.hid (World.ownsRow_nil _ _ _ _)
 have HD0 : Hid (∀ g,(Value.slice none 0 0).ownBlock = some g → W0.heap.size ≤ g ∧ g < W0.heap.size):=fun g hg => by simp [Value.ownBlock] at hg
 have hs0 : W0.heap.size ≤ W0.heap.size:=Nat.le_refl _
 have ⟨LP0,CP0,FP0⟩:=BP0
 have ⟨LZ0,CZ0,FZ0⟩:=BZ0
 have hxp0 : Hid (∀ b,b < W0.heap.size → b ∉ (Value.slice none 0 0).ownBlock.toList):=fun b hb hm => by
   have:=HD0.out b (by simpa using hm)
   omega
 go_upto_region 6 with (at_builtin;refine wpList_append_rd _ rfl _ _ 26 rfl W0.heap.size 76 i0 (.slice none 0 0) 1 24 Tryz.underlying26 hi hz0 hz1 hz2 rfl (by decide) (.slice none 0 0) 0 [] rfl (own_alloc (own_alloc OWN0.out _) _) (some ⟨W0.heap.size + 1,0,none⟩) 1 1 [.slice (some ⟨W0.heap.size,0,none⟩) 2 2] rfl (Rd.new1 _ _ _ _ (by first | rfl | (simp;done) | (simp;omega))) (fun h => by cases h) (by intro u hu;have hu:=List.mem_singleton.1 hu;subst hu;rfl) 1 rfl _ rfl (by unfold maxLen;omega) (by omega) (by first | (simp;done) | (simp;omega) | exact Nat.le_trans (by omega) (Nat.le_succ _)) ?_;intro A1 c1 x0 hown0 hka0 hat0;have hkx0:=Lib.hid ((((Kept.refl (Value.slice none 0 0).ownBlock.toList W0).alloc (.cells #[.int .i64 0,.int .i64 0,.int .i64 2,.int .i64 0,.int .i64 0,.int .i64 0,.int .i64 1,.int .i64 1,.int .i64 0,.int .i64 5] 125)).alloc (.cells #[.slice (some ⟨W0.heap.size,0,none⟩) 2 2] 76)).next hka0 (fun y hy => Or.inl hy));have hka0:=Lib.hid hka0;have hown0:=Lib.hid hown0;have hat0:=Lib.hid hat0;have ⟨LX0,CX0,FX0⟩:=hkx0.out.blk (hxp0.out p HLT.out.2.2.2.2) BP0)
 have hrl0 : W0.heap.size ∉ (Value.slice none 0 0).ownBlock.toList:=fun hm => by
   have:=HD0.out W0.heap.size (by simpa using hm)
   omega
 have hps0:=HLT.out.2.2.2.2
 refine wp_named (fun V => Blk V p [.slice (some ⟨bn,0,none⟩) 5 5,.slice (some ⟨be,0,none⟩) 3 3,.int .i64 0,.int .i64 2,.slice A1 1 c1,.slice none 0 0] ∧ Kept (p :: (Value.slice none 0 0).ownBlock.toList) W0 V ∧ Blk V W0.heap.size [.int .i64 0,.int .i64 0,.int .i64 2,.int .i64 0,.int .i64 0,.int .i64 0,.int .i64 1,.int .i64 1,.int .i64 0,.int .i64 5] ∧ V.ownsRow W0.heap.size 76 1 (.slice A1 1 c1) 1 [.slice (some ⟨W0.heap.size,0,none⟩) 2 2]) ⟨?_,?_,?_,?_⟩ ?_
 · exact (hkx0.out.blk (hxp0.out p HLT.out.2.2.2.2) BP0).set 4 _
 · exact (((Kept.refl (p :: (Value.slice none 0 0).ownBlock.toList) W0).next hkx0.out (fun y hy => Or.inl (by simp;exact .inr (by simpa using hy))))).set p _ _ (.inl (by simp))
 · refine Blk.setOther (hka0.out.blk hrl0 ((Blk.new W0 _ _ W0.heap.size rfl).alloc _)) p 4 _ (by omega)
 · refine own_set hown0.out p 4 _ (fun g hg => ?_)
   have:=own_ge hown0.out hg
   omega
 rintro W1 ⟨BP1,hkN0,brow0,own1⟩
 have OWN1:=Lib.hid own1
 have HD1 : Hid (∀ g,(Value.slice A1 1 c1).ownBlock = some g → W0.heap.size ≤ g ∧ g < W1.heap.size ∧ g ≠ W0.heap.size):=fun g hg => by
   have h1:=own_ge OWN1.out hg
   have h2:=own_lt OWN1.out hg
   have h3:=hat0.out g hg
   refine ⟨h1,h2,?_⟩
   · rcases h3 with h3 | h3
     · have:=HD0.out g h3
       omega
     · simp at h3
       omega
 have hrl0lt : Hid (W0.heap.size < W1.heap.size):=brow0.1
 have BROW0:=Lib.hid brow0
 have hN0 : ∀ b,b < W0.heap.size → b ≠ p → b ∉ p :: (Value.slice none 0 0).ownBlock.toList:=fun b h1 h2 => by
   simp only [List.mem_cons,not_or]
   exact ⟨h2,hxp0.out b h1⟩
 have BR1:=Lib.hid (hkN0.blk (hN0 r0 HLT.out.1 HG.out.2.2.2.2.2.1) BR0.out)
 have BN1:=Lib.hid (hkN0.blk (hN0 bn HLT.out.2.1 HG.out.2.2.2.2.2.2.1) BN0.out)
 have BE1:=Lib.hid (hkN0.blk (hN0 be HLT.out.2.2.1 HG.out.2.2.2.2.2.2.2.1) BE0.out)
 have BZ1:=hkN0.blk (hN0 z HLT.out.2.2.2.1 HG.out.2.2.2.2.2.2.2.2.1) BZ0
 have hrl0ge : Hid (W0.heap.size ≤ W0.heap.size):=by show _ ≤ _;omega
 have hs1 : W0.heap.size ≤ W1.heap.size:=Nat.le_trans hs0 hkN0.size
 have hkw1 : Kept [] w W1:=kept_fresh hkw0 hkN0 (fun y hy => by
   simp only [List.mem_cons] at hy
   rcases hy with rfl | hy
   · exact HG.out.2.2.2.2.1
   · have:=HD0.out y (by simpa using hy)
     have:=hkw0.size
     omega)
 have hrlt0:=hrl0lt.out
 clear CP0 FP0 CZ0 FZ0 CX0 FX0 hka0 hkx0 own1 brow0 hN0 LZ0 LX0
 have ⟨LP1,CP1,FP1⟩:=BP1
 have ⟨LZ1,CZ1,FZ1⟩:=BZ1
 have hxp1 : Hid (∀ b,b < W0.heap.size → b ∉ (Value.slice A1 1 c1).ownBlock.toList):=fun b hb hm => by
   have:=HD1.out b (by simpa using hm)
   omega
 go_upto_region 7 with (at_builtin;refine wpList_append_rd _ rfl _ _ 26 rfl W0.heap.size 76 i0 (.slice none 0 0) 1 24 Tryz.underlying26 hi hz0 hz1 hz2 rfl (by decide) (.slice A1 1 c1) 1 [.slice (some ⟨W0.heap.size,0,none⟩) 2 2] rfl (own_alloc (own_alloc OWN1.out _) _) (some ⟨W1.heap.size + 1,0,none⟩) 1 1 [.slice (some ⟨W1.heap.size,0,none⟩) 2 2] rfl (Rd.new1 _ _ _ _ (by first | rfl | (simp;done) | (simp;omega))) (fun h => by cases h) (by intro u hu;have hu:=List.mem_singleton.1 hu;subst hu;rfl) 2 rfl _ rfl (by unfold maxLen;omega) (by omega) (by first | (simp;done) | (simp;omega) | exact Nat.le_trans (by omega) (Nat.le_succ _)) ?_;intro A2 c2 x1 hown1 hka1 hat1;have hkx1:=Lib.hid ((((Kept.refl (Value.slice A1 1 c1).ownBlock.toList W1).alloc (.cells #[.int .i64 0,.int .i64 0,.int .i64 2,.int .i64 0,.int .i64 0,.int .i64 1,.int .i64 1,.int .i64 2,.int .i64 2,.int .i64 0] 125)).alloc (.cells #[.slice (some ⟨W1.heap.size,0,none⟩) 2 2] 76)).next hka1 (fun y hy => Or.inl hy));have hka1:=Lib.hid hka1;have hown1:=Lib.hid hown1;have hat1:=Lib.hid hat1;have ⟨LX1,CX1,FX1⟩:=hkx1.out.blk (hxp1.out p HLT.out.2.2.2.2) BP1)
 have hrl1 : W1.heap.size ∉ (Value.slice A1 1 c1).ownBlock.toList:=fun hm => by
   have:=HD1.out W1.heap.size (by simpa using hm)
   omega
 have hps1:=HLT.out.2.2.2.2
 refine wp_named (fun V => Blk V p [.slice (some ⟨bn,0,none⟩) 5 5,.slice (some ⟨be,0,none⟩) 3 3,.int .i64 0,.int .i64 2,.slice A2 2 c2,.slice none 0 0] ∧ Kept (p :: (Value.slice A1 1 c1).ownBlock.toList) W1 V ∧ Blk V W1.heap.size [.int .i64 0,.int .i64 0,.int .i64 2,.int .i64 0,.int .i64 0,.int .i64 1,.int .i64 1,.int .i64 2,.int .i64 2,.int .i64 0] ∧ V.ownsRow W0.heap.size 76 1 (.slice A2 2 c2) 2 [.slice (some ⟨W0.heap.size,0,none⟩) 2 2,.slice (some ⟨W1.heap.size,0,none⟩) 2 2]) ⟨?_,?_,?_,?_⟩ ?_
 · exact (hkx1.out.blk (hxp1.out p HLT.out.2.2.2.2) BP1).set 4 _
 · exact (((Kept.refl (p :: (Value.slice A1 1 c1).ownBlock.toList) W1).next hkx1.out (fun y hy => Or.inl (by simp;exact .inr (by simpa using hy))))).set p _ _ (.inl (by simp))
 · refine Blk.setOther (hka1.out.blk hrl1 ((Blk.new W1 _ _ W1.heap.size rfl).alloc _)) p 4 _ (by omega)
 · refine own_set hown1.out p 4 _ (fun g hg => ?_)
   have:=own_ge hown1.out hg
   omega
 rintro W2 ⟨BP2,hkN1,brow1,own2⟩
 have OWN2:=Lib.hid own2
 have HD2 : Hid (∀ g,(Value.slice A2 2 c2).ownBlock = some g → W0.heap.size ≤ g ∧ g < W2.heap.size ∧ g ≠ W0.heap.size ∧ g ≠ W1.heap.size):=fun g hg => by
   have h1:=own_ge OWN2.out hg
   have h2:=own_lt OWN2.out hg
   have h3:=hat1.out g hg
   refine ⟨h1,h2,?_,?_⟩
   · rcases h3 with h3 | h3
     · exact (HD1.out g h3).2.2
     · have:=hrl0lt.out
       simp at h3
       omega
   · rcases h3 with h3 | h3
     · have:=HD1.out g h3
       omega
     · simp at h3
       omega
 have hrl1lt : Hid (W1.heap.size < W2.heap.size):=brow1.1
 have BROW1:=Lib.hid brow1
 have hN0 : ∀ b,b < W0.heap.size → b ≠ p → b ∉ p :: (Value.slice A1 1 c1).ownBlock.toList:=fun b h1 h2 => by
   simp only [List.mem_cons,not_or]
   exact ⟨h2,hxp1.out b h1⟩
 have BR2:=Lib.hid (hkN1.blk (hN0 r0 HLT.out.1 HG.out.2.2.2.2.2.1) BR1.out)
 have BN2:=Lib.hid (hkN1.blk (hN0 bn HLT.out.2.1 HG.out.2.2.2.2.2.2.1) BN1.out)
 have BE2:=Lib.hid (hkN1.blk (hN0 be HLT.out.2.2.1 HG.out.2.2.2.2.2.2.2.1) BE1.out)
 have BZ2:=hkN1.blk (hN0 z HLT.out.2.2.2.1 HG.out.2.2.2.2.2.2.2.2.1) BZ1
 have BROW0_2:=Lib.hid (hkN1.blk (b:=W0.heap.size) (by
   simp only [List.mem_cons,not_or]
   refine ⟨by have:=hrl0ge.out;omega,fun hm => ?_⟩
   have:=HD1.out W0.heap.size (by simpa using hm)
   omega) BROW0.out)
 have hrl1ge : Hid (W0.heap.size ≤ W1.heap.size):=by show _ ≤ _;omega
 have hs2 : W0.heap.size ≤ W2.heap.size:=Nat.le_trans hs1 hkN1.size
 have hkw2 : Kept [] w W2:=kept_fresh hkw1 hkN1 (fun y hy => by
   simp only [List.mem_cons] at hy
   rcases hy with rfl | hy
   · exact HG.out.2.2.2.2.1
   · have:=HD1.out y (by simpa using hy)
     have:=hkw0.size
     omega)
 have hrlt1:=hrl1lt.out
 clear CP1 FP1 CZ1 FZ1 CX1 FX1 hka1 hkx1 own2 brow1 hN0 LZ1 LX1
 have ⟨LP2,CP2,FP2⟩:=BP2
 have ⟨LZ2,CZ2,FZ2⟩:=BZ2
 have hxp2 : Hid (∀ b,b < W0.heap.size → b ∉ (Value.slice A2 2 c2).ownBlock.toList):=fun b hb hm => by
   have:=HD2.out b (by simpa using hm)
   omega
 go_upto_region 8 with (at_builtin;refine wpList_append_rd _ rfl _ _ 26 rfl W0.heap.size 76 i0 (.slice none 0 0) 1 24 Tryz.underlying26 hi hz0 hz1 hz2 rfl (by decide) (.slice A2 2 c2) 2 [.slice (some ⟨W0.heap.size,0,none⟩) 2 2,.slice (some ⟨W1.heap.size,0,none⟩) 2 2] rfl (own_alloc (own_alloc OWN2.out _) _) (some ⟨W2.heap.size + 1,0,none⟩) 1 1 [.slice (some ⟨W2.heap.size,0,none⟩) 1 1] rfl (Rd.new1 _ _ _ _ (by first | rfl | (simp;done) | (simp;omega))) (fun h => by cases h) (by intro u hu;have hu:=List.mem_singleton.1 hu;subst hu;rfl) 3 rfl _ rfl (by unfold maxLen;omega) (by omega) (by first | (simp;done) | (simp;omega) | exact Nat.le_trans (by omega) (Nat.le_succ _)) ?_;intro A3 c3 x2 hown2 hka2 hat2;have hkx2:=Lib.hid ((((Kept.refl (Value.slice A2 2 c2).ownBlock.toList W2).alloc (.cells #[.int .i64 0,.int .i64 0,.int .i64 2,.int .i64 0,.int .i64 0] 125)).alloc (.cells #[.slice (some ⟨W2.heap.size,0,none⟩) 1 1] 76)).next hka2 (fun y hy => Or.inl hy));have hka2:=Lib.hid hka2;have hown2:=Lib.hid hown2;have hat2:=Lib.hid hat2;have ⟨LX2,CX2,FX2⟩:=hkx2.out.blk (hxp2.out p HLT.out.2.2.2.2) BP2)
 have hrl2 : W2.heap.size ∉ (Value.slice A2 2 c2).ownBlock.toList:=fun hm => by
   have:=HD2.out W2.heap.size (by simpa using hm)
   omega
 have hps2:=HLT.out.2.2.2.2
 refine wp_named (fun V => Blk V p [.slice (some ⟨bn,0,none⟩) 5 5,.slice (some ⟨be,0,none⟩) 3 3,.int .i64 0,.int .i64 2,.slice A3 3 c3,.slice none 0 0] ∧ Kept (p :: (Value.slice A2 2 c2).ownBlock.toList) W2 V ∧ Blk V W2.heap.size [.int .i64 0,.int .i64 0,.int .i64 2,.int .i64 0,.int .i64 0] ∧ V.ownsRow W0.heap.size 76 1 (.slice A3 3 c3) 3 [.slice (some ⟨W0.heap.size,0,none⟩) 2 2,.slice (some ⟨W1.heap.size,0,none⟩) 2 2,.slice (some ⟨W2.heap.size,0,none⟩) 1 1]) ⟨?_,?_,?_,?_⟩ ?_
 · exact (hkx2.out.blk (hxp2.out p HLT.out.2.2.2.2) BP2).set 4 _
 · exact (((Kept.refl (p :: (Value.slice A2 2 c2).ownBlock.toList) W2).next hkx2.out (fun y hy => Or.inl (by simp;exact .inr (by simpa using hy))))).set p _ _ (.inl (by simp))
 · refine Blk.setOther (hka2.out.blk hrl2 ((Blk.new W2 _ _ W2.heap.size rfl).alloc _)) p 4 _ (by omega)
 · refine own_set hown2.out p 4 _ (fun g hg => ?_)
   have:=own_ge hown2.out hg
   omega
 rintro W3 ⟨BP3,hkN2,brow2,own3⟩
 have OWN3:=Lib.hid own3
 have HD3 : Hid (∀ g,(Value.slice A3 3 c3).ownBlock = some g → W0.heap.size ≤ g ∧ g < W3.heap.size ∧ g ≠ W0.heap.size ∧ g ≠ W1.heap.size ∧ g ≠ W2.heap.size):=fun g hg => by
   have h1:=own_ge OWN3.out hg
   have h2:=own_lt OWN3.out hg
   have h3:=hat2.out g hg
   refine ⟨h1,h2,?_,?_,?_⟩
   · rcases h3 with h3 | h3
     · exact (HD2.out g h3).2.2.1
     · have:=hrl0lt.out
       simp at h3
       omega
   · rcases h3 with h3 | h3
     · exact (HD2.out g h3).2.2.2
     · have:=hrl1lt.out
       simp at h3
       omega
   · rcases h3 with h3 | h3
     · have:=HD2.out g h3
       omega
     · simp at h3
       omega
 have hrl2lt : Hid (W2.heap.size < W3.heap.size):=brow2.1
 have BROW2:=Lib.hid brow2
 have hN0 : ∀ b,b < W0.heap.size → b ≠ p → b ∉ p :: (Value.slice A2 2 c2).ownBlock.toList:=fun b h1 h2 => by
   simp only [List.mem_cons,not_or]
   exact ⟨h2,hxp2.out b h1⟩
 have BR3:=Lib.hid (hkN2.blk (hN0 r0 HLT.out.1 HG.out.2.2.2.2.2.1) BR2.out)
 have BN3:=Lib.hid (hkN2.blk (hN0 bn HLT.out.2.1 HG.out.2.2.2.2.2.2.1) BN2.out)
 have BE3:=Lib.hid (hkN2.blk (hN0 be HLT.out.2.2.1 HG.out.2.2.2.2.2.2.2.1) BE2.out)
 have BZ3:=hkN2.blk (hN0 z HLT.out.2.2.2.1 HG.out.2.2.2.2.2.2.2.2.1) BZ2
 have BROW0_3:=Lib.hid (hkN2.blk (b:=W0.heap.size) (by
   simp only [List.mem_cons,not_or]
   refine ⟨by have:=hrl0ge.out;omega,fun hm => ?_⟩
   have:=HD2.out W0.heap.size (by simpa using hm)
   omega) BROW0_2.out)
 have BROW1_3:=Lib.hid (hkN2.blk (b:=W1.heap.size) (by
   simp only [List.mem_cons,not_or]
   refine ⟨by have:=hrl1ge.out;omega,fun hm => ?_⟩
   have:=HD2.out W1.heap.size (by simpa using hm)
   omega) BROW1.out)
 have hrl2ge : Hid (W0.heap.size ≤ W2.heap.size):=by show _ ≤ _;omega
 have hs3 : W0.heap.size ≤ W3.heap.size:=Nat.le_trans hs2 hkN2.size
 have hkw3 : Kept [] w W3:=kept_fresh hkw2 hkN2 (fun y hy => by
   simp only [List.mem_cons] at hy
   rcases hy with rfl | hy
   · exact HG.out.2.2.2.2.1
   · have:=HD2.out y (by simpa using hy)
     have:=hkw0.size
     omega)
 have hrlt2:=hrl2lt.out
 clear CP2 FP2 CZ2 FZ2 CX2 FX2 hka2 hkx2 own3 brow2 hN0 LZ2 LX2
 have ⟨LP3,CP3,FP3⟩:=BP3
 have ⟨LR3,CR3,FR3⟩:=BR3.out
 go_wp2_with fail
 refine post_named (fun X => Blk X r0 [.slice (some ⟨bn,0,none⟩) 5 5,.slice (some ⟨be,0,none⟩) 3 3,.int .i64 0,.int .i64 2,.slice A3 3 c3,.slice none 0 0] ∧ Kept [r0] W3 X) ⟨(((((BR3.out.set 0 _).set 1 _).set 2 _).set 3 _).set 4 _).set 5 _,?_⟩ ?_
 · repeat' first | (with_reducible exact Kept.refl _ _) | (with_reducible refine Kept.set ?_ _ _ _ (Or.inl (by simp)))
 rintro X ⟨BX,hkX⟩
 have ⟨LX,CX,FX⟩:=BX
 refine bodyPost_ret (by simp [results,Tryz.results39,go_sem,CX];rfl) rfl ?_
 have hkwX : Kept [] w X:=kept_fresh hkw3 hkX (by simpa using HG.out.1)
 have hN:=HG.out
 have hlt:=HLT.out
 have xn : Blk X bn _:=hkX.blk (by simp;omega) BN3.out
 have xe : Blk X be _:=hkX.blk (by simp;omega) BE3.out
 have x0 : Blk X W0.heap.size _:=hkX.blk (by have:=hrl0ge.out;simp;omega) BROW0_3.out
 have x1 : Blk X W1.heap.size _:=hkX.blk (by have:=hrl1ge.out;simp;omega) BROW1_3.out
 have x2 : Blk X W2.heap.size _:=hkX.blk (by have:=hrl2ge.out;simp;omega) BROW2.out
 have ow : X.ownsRow W0.heap.size 76 1 (.slice A3 3 c3) 3 _:=own_keptK OWN3.out hkX (fun g hg => by have:=HD3.out g hg;simp;omega)
 obtain ⟨g,c',hv,hb,hg,-,-,hcell,-⟩:=own_cellsT ow (by omega)
 injection hv with e1 e2 e3
 subst e1
 refine ⟨_,_,_,_,rfl,⟨⟨rfl,fun _ => ⟨bn,0,rfl,xn.1,fun i hi => ?_⟩⟩,⟨rfl,fun _ => ⟨be,0,rfl,xe.1,fun i hi => ?_⟩⟩,fun i hi => ?_,fun i hi => ?_⟩,⟨rfl,fun _ => ⟨g,0,rfl,hg,fun i hi => ?_⟩⟩,fun b o i A n c e hi hc => ?_,hkwX.toBelow⟩
 · match i,hi with
   | 0,_ => exact ⟨xn.2.1 0,xn.2.1 1,xn.2.1 2⟩
   | 1,_ => exact ⟨xn.2.1 3,xn.2.1 4,xn.2.1 5⟩
   | 2,_ => exact ⟨xn.2.1 6,xn.2.1 7,xn.2.1 8⟩
   | 3,_ => exact ⟨xn.2.1 9,xn.2.1 10,xn.2.1 11⟩
   | 4,_ => exact ⟨xn.2.1 12,xn.2.1 13,xn.2.1 14⟩
 · match i,hi with
   | 0,_ => exact ⟨xe.2.1 0,xe.2.1 1,xe.2.1 2,xe.2.1 3⟩
   | 1,_ => exact ⟨xe.2.1 4,xe.2.1 5,xe.2.1 6,xe.2.1 7⟩
   | 2,_ => exact ⟨xe.2.1 8,xe.2.1 9,xe.2.1 10,xe.2.1 11⟩
 · match i,hi with
   | 0,_ => rfl
   | 1,_ => rfl
   | 2,_ => rfl
   | 3,_ => rfl
   | 4,_ => rfl
 · match i,hi with
   | 0,_ => exact ⟨rfl,rfl⟩
   | 1,_ => exact ⟨rfl,rfl⟩
   | 2,_ => exact ⟨rfl,rfl⟩
 · match i,hi with
   | 0,_ => exact ⟨_,_,_,hcell 0 (by omega),xps2 x0⟩
   | 1,_ => exact ⟨_,_,_,hcell 1 (by omega),xps2 x1⟩
   | 2,_ => exact ⟨_,_,_,hcell 2 (by omega),xps1 x2⟩
 · injection e with e
   injection e with e4 e5
   subst e4 e5
   rw [Nat.zero_add] at hc
   match i,hi with
   | 0,_ => have h9:=(hcell 0 (by omega)).symm.trans hc;simp at h9;omega
   | 1,_ => have h9:=(hcell 1 (by omega)).symm.trans hc;simp at h9;omega
   | 2,_ => have h9:=(hcell 2 (by omega)).symm.trans hc;simp at h9;omega
end Go.Proofs.YtincpmdldpakkaaGreatDoor
namespace Go.Proofs.YtincpmdldpakkaaGreatDoor
open Go.RowKit Go.Df Go.Df.Iv Go.Df.Sp
theorem lies_one {A1 A2 A3 : Option Addr} {w : World} (g : Go.Df.Gr w A1 5 A2 3 oneN oneE) (f : Fls w A3 3 oneL) (fc : ∀ b o i A n c,A3 = some ⟨b,o,none⟩ → i < 3 → w.cell? ⟨b,o + i,none⟩ = some (.slice A n c) → n ≤ c) : Lies v1 A1 A2 A3 none 5 3 3 0 w :=
 ⟨g.nd,g.ed,f,⟨rfl,fun h => absurd h (by omega)⟩,fc,g.wn,g.we,v1_fit,by omega⟩
theorem mu_one : mu0 v1 ≤ 1000000:=mu_small (by decide) (by decide)
end Go.Proofs.YtincpmdldpakkaaGreatDoor
namespace Go.Proofs.YtincpmdldpakkaaGreatDoor
open Go.RowKit Go.Df Go.Df.Iv Go.Df.Sp
attribute [local go_sem ↓] Go.wp_at_zero Go.wp_at_succ
theorem Lies.later {p : Vb} {A1 A2 A3 A4 : Option Addr} {n1 n2 n3 n4 : Nat} {w w' : World} (h : Lies p A1 A2 A3 A4 n1 n2 n3 n4 w) (hb : Below w.heap.size w w') : Lies p A1 A2 A3 A4 n1 n2 n3 n4 w' :=
 ⟨h.nd.later hb,h.ed.later hb,h.fl.later hb,h.sd.later hb,fun b o i A n c e hi hc => by
   obtain ⟨b3,o3,e3,hl,-⟩:=h.fl.2 (by omega)
   obtain ⟨rfl,rfl⟩ : b3 = b ∧ o3 = o:=by
     have h9:=e3.symm.trans e
     injection h9 with h9
     injection h9 with e1 e2
     exact ⟨e1,e2⟩
   exact h.fc b3 o3 i A n c e hi ((hb.cell (p:=⟨b3,_,none⟩) hl).symm.trans hc),h.wn,h.we,h.fit,h.n4⟩
theorem solve_v1 (A1 A2 A3 : Option Addr) (c3 : Nat) (w : World) (h : Lies v1 A1 A2 A3 none 5 3 3 0 w) (hgv : Gv w) :
   Calls Tryz.prog 10 #[.agg #[.slice A1 5 5,.slice A2 3 3,.int .i64 0,.int .i64 2,.slice A3 3 c3,.slice none 0 0]] w fun e w' =>
     ∃ (go cc : Nat) (rw rc : Nat → Nat),e = .returned (.tuple #[.agg #[.slice (some ⟨go,0,none⟩) 5 cc],.int .i64 0]) ∧ go < w'.heap.size ∧ (∀ n,n < 5 → rw n < w'.heap.size ∧ w'.cell? ⟨go,n,none⟩ = some (.slice (some ⟨rw n,0,none⟩) 2 (rc n))) ∧
       w'.cell? ⟨rw 2,2,none⟩ = some (.int .i64 1) ∧ w'.cell? ⟨rw 2,3,none⟩ = some (.int .i64 7) ∧ w'.cell? ⟨rw 3,0,none⟩ = some (.int .i64 2) ∧ w'.cell? ⟨rw 3,2,none⟩ = some (.int .i64 0) ∧ w'.cell? ⟨rw 4,0,none⟩ = some (.int .i64 0) ∧ Below w.heap.size w w':=by
 refine (psolve_any (p:=v1) A1 A2 A3 none 5 5 3 3 3 c3 0 0 w h hgv (fun _ => mu_one)).mono ?_
 rintro e w' (⟨-,go,cc,rw,rc,S,rfl,V,I,B⟩ | ⟨h9,-⟩)
 · have e21 : (S 2 1).1 = ⟨1,7⟩:=(congrArg (·.1) (v1_sol I (by omega) (by omega))).trans v1_21
   have e30 : (S 3 0).1 = ⟨2,0⟩:=(congrArg (·.1) (v1_sol I (by omega) (by omega))).trans v1_30
   have e31 : (S 3 1).1 = ⟨0,0⟩:=(congrArg (·.1) (v1_sol I (by omega) (by omega))).trans v1_31
   have e40 : (S 4 0).1 = ⟨0,0⟩:=(congrArg (·.1) (v1_sol I (by omega) (by omega))).trans v1_40
   have c21:=V.cell 2 1 (by omega) (by show 1 < 2;omega)
   have c30:=V.cell 3 0 (by omega) (by show 0 < 2;omega)
   have c31:=V.cell 3 1 (by omega) (by show 1 < 2;omega)
   have c40:=V.cell 4 0 (by omega) (by show 0 < 2;omega)
   rw [e21] at c21
   rw [e30] at c30
   rw [e31] at c31
   rw [e40] at c40
   exact ⟨go,cc,rw,rc,rfl,V.glt,fun n hn => ⟨V.lt n hn,V.row n hn⟩,c21.1,c21.2,c30.1,c31.1,c40.1,B⟩
 · exact absurd v1_err h9
set_option maxRecDepth 100000 in
set_option maxHeartbeats 4000000 in
theorem knows33_any (w : World) (hgv : Gv w) : Calls Tryz.prog 14 #[] w fun e w' => e = .returned (.bool true) ∧ Below w.heap.size w w':=by
 have HGV:=Lib.hid hgv
 clear hgv
 go_enter Tryz.func14,Tryz.ntmps14
 go_upto_region 2 with (first
   | (go_at_call 39;refine (one33_any _).mono ?_;rintro e w1 ⟨A1,A2,A3,c3,rfl,hG1,hF1,hC1,hb1⟩;have HL1:=Lib.hid (lies_one hG1 hF1 hC1);clear hG1 hF1 hC1)
   | (go_at_call 10;refine (solve_v1 A1 A2 A3 c3 _ HL1.out (HGV.out.later hb1)).mono ?_;rintro e w2 ⟨go,cc,rw,rc,rfl,hgo,hrow,k1,k2,k3,k4,k5,hb2⟩))
 refine wp_named (fun V => ∃ g,w2.heap.size = g ∧ Blk V g [.slice (some ⟨go,0,none⟩) 5 cc] ∧ Kept [] w2 V) ⟨_,rfl,Blk.new _ _ _ _ rfl,(Kept.refl _ _).alloc _⟩ ?_
 rintro V ⟨g,eg,Bg,hkV⟩
 rw [eg]
 have ⟨LG,CG,FG⟩:=Bg
 have hwV : Kept [] w V:=((((Kept.refl [] w).call hb1).call hb2).next hkV (by simp))
 have hcell : ∀ b i v,b < w2.heap.size → w2.cell? ⟨b,i,none⟩ = some v → V.cell? ⟨b,i,none⟩ = some v:=fun b i v hl h => (hkV.cell b i hl (by simp)).trans h
 have r2:=hcell go 2 _ hgo (hrow 2 (by omega)).2
 have r3:=hcell go 3 _ hgo (hrow 3 (by omega)).2
 have r4:=hcell go 4 _ hgo (hrow 4 (by omega)).2
 have k1:=hcell _ _ _ (hrow 2 (by omega)).1 k1
 have k2:=hcell _ _ _ (hrow 2 (by omega)).1 k2
 have k3:=hcell _ _ _ (hrow 3 (by omega)).1 k3
 have k4:=hcell _ _ _ (hrow 3 (by omega)).1 k4
 have k5:=hcell _ _ _ (hrow 4 (by omega)).1 k5
 clear hrow hgo eg hcell HL1
 go_wp2_with fail
 go_ret
 exact ⟨rfl,hwV.toBelow⟩
end Go.Proofs.YtincpmdldpakkaaGreatDoor
namespace Go.Df
open Go.RowKit
theorem Fls.row {w0 w : World} {A : Option Addr} {n : Nat} {ls : List (List Sp.Xp)} (h : Fls w0 A n ls) (hb : Below w0.heap.size w0 w) {j : Nat} (hj : j < n) :
   ∃ b o Ai ni ci,A = some ⟨b,o,none⟩ ∧ b < w0.heap.size ∧ w.cell? ⟨b,o + j,none⟩ = some (.slice Ai ni ci) ∧ Xps w0 Ai ni (Sp.gl ls j):=by
 obtain ⟨b,o,rfl,hl,hc⟩:=h.2 (by omega)
 obtain ⟨Ai,ni,ci,h1,h2⟩:=hc j hj
 exact ⟨b,o,Ai,ni,ci,rfl,hl,(hb.cell (p:=⟨b,_,none⟩) hl).trans h1,h2⟩
end Go.Df
namespace Go.Proofs.YtincpmdldpakkaaGreatDoor
open Go.RowKit Go.Df Go.Df.Sp
attribute [local go_sem ↓] Go.wp_at_zero Go.wp_at_succ
set_option maxRecDepth 100000 in
set_option maxHeartbeats 4000000 in
theorem small33_any (A1 A2 A3 A4 : Option Addr) (n1 c1 n2 c2 n3 c3 n4 c4 : Nat) (mn F : Int) (ls : List (List Sp.Xp)) (w : World) (hf : Fls w A3 n3 ls) :
   Calls Tryz.prog 8 #[.agg #[.slice A1 n1 c1,.slice A2 n2 c2,.int .i64 mn,.int .i64 F,.slice A3 n3 c3,.slice A4 n4 c4]] w fun e w' => ∃ s,e = .returned (.bool s) ∧ (s = true → n1 ≤ 36 ∧ n3 ≤ 70 ∧ n4 ≤ 20 ∧ F ≤ 6) ∧ Below w.heap.size w w':=by
 have HF:=Lib.hid hf
 clear hf
 go_enter Tryz.func8,Tryz.ntmps8
 go_upto_region 1 with fail
 refine wp_named (fun W => ∃ b0,w.heap.size = b0 ∧ Blk W b0 [.slice A1 n1 c1,.slice A2 n2 c2,.int .i64 mn,.int .i64 F,.slice A3 n3 c3,.slice A4 n4 c4] ∧ Below w.heap.size w W) ⟨_,rfl,?_,?_⟩ ?_
 · exact kbn
 · go_grown
 rintro W ⟨b0,e0,B0,hB⟩
 rw [e0]
 have G0 : w.heap.size ≤ b0:=by omega
 clear e0
 have ⟨L0,C0,F0⟩:=B0
 have hkW : Kept [] w W:=(Kept.refl _ _).call hB
 by_cases t1 : 36 < n1
 · have d1 : decide ((36 : Int) < n1) = true:=by simp;omega
   go_wp2_with fail
   go_ret
   first | exact ⟨false,rfl,(fun h => by cases h),hB⟩ | exact Or.inl ⟨rfl,hB⟩
 have d1 : decide ((36 : Int) < n1) = false:=by simp;omega
 by_cases t2 : 70 < n2
 · have d2 : decide ((70 : Int) < n2) = true:=by simp;omega
   go_wp2_with fail
   go_ret
   first | exact ⟨false,rfl,(fun h => by cases h),hB⟩ | exact Or.inl ⟨rfl,hB⟩
 have d2 : decide ((70 : Int) < n2) = false:=by simp;omega
 by_cases t3 : 6 < F
 · have d3 : decide (6 < F) = true:=by simpa using t3
   go_wp2_with fail
   go_ret
   first | exact ⟨false,rfl,(fun h => by cases h),hB⟩ | exact Or.inl ⟨rfl,hB⟩
 have d3 : decide (6 < F) = false:=by simpa using t3
 by_cases t4 : 70 < n3
 · have d4 : decide ((70 : Int) < n3) = true:=by simp;omega
   go_wp2_with fail
   go_ret
   first | exact ⟨false,rfl,(fun h => by cases h),hB⟩ | exact Or.inl ⟨rfl,hB⟩
 have d4 : decide ((70 : Int) < n3) = false:=by simp;omega
 by_cases t5 : 20 < n4
 · have d5 : decide ((20 : Int) < n4) = true:=by simp;omega
   go_wp2_with fail
   go_ret
   first | exact ⟨false,rfl,(fun h => by cases h),hB⟩ | exact Or.inl ⟨rfl,hB⟩
 have d5 : decide ((20 : Int) < n4) = false:=by simp;omega
 go_wp2_with fail
 go_loopw [3] (fun i wr => ∃ j : Nat,j ≤ n3 ∧ i = .int .i64 j ∧ Kept [] W wr) (fun i _ => n3 - (intOf i).toNat)
 case atStart => exact ⟨0,Nat.zero_le _,rfl,Kept.refl _ _⟩
 case round =>
   obtain ⟨j,hj,rfl,hkr⟩:=hrel
   have ⟨LR,CR,FR⟩:=hkr.blk (by simp) B0
   have hkwr : Kept [] w wr:=keptTrans hkW hkr
   clear C0 F0
   by_cases hlt : j < n3
   · obtain ⟨b3,o3,Ai,ni,ci,rfl,hl3,hc3,-⟩:=HF.out.row hkwr.toBelow hlt
     have hl3r : b3 < wr.heap.size:=Nat.lt_of_lt_of_le hl3 hkwr.size
     have hj1 : (j : Int) < (n3 : Int):=by omega
     by_cases t6 : 24 < ni
     · have d6 : decide ((24 : Int) < ni) = true:=by simp;omega
       go_wp2_with fail
       go_ret
       exact ⟨false,rfl,(fun h => by cases h),hkwr.toBelow⟩
     · have d6 : decide ((24 : Int) < ni) = false:=by simp;omega
       go_wp2_with fail
       exact ⟨⟨j + 1,by omega,by go_num,hkr⟩,by simp [intOf];omega⟩
   · obtain rfl : j = n3:=by omega
     go_wp2_with fail
     go_ret
     exact ⟨true,rfl,fun _ => ⟨by omega,by omega,by omega,by omega⟩,hkwr.toBelow⟩
end Go.Proofs.YtincpmdldpakkaaGreatDoor
