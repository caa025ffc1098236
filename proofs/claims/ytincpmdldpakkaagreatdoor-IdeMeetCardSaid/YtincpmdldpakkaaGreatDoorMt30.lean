/- Texts: An. -/
import Derived.Test.YtincpmdldpakkaaGreatDoorMt29
import Derived.Test.YtincpmdldpakkaaGreatDoorMt07
namespace Go.Df
open Go.RowKit
theorem Rd.new4 (w : World) (b : Nat) (u0 u1 u2 u3 : Value) (t : TypeId) (hb : b = w.heap.size) : Rd (w.alloc (.cells #[u0,u1,u2,u3] t)) 4 (some ⟨b,0,none⟩) 1 [u0,u1,u2,u3]:=by
 subst hb
 refine ⟨rfl,fun _ => ⟨_,_,rfl,by simp,fun j _ => ?_⟩⟩
 rw [World.cell?_alloc_new,Nat.zero_add];simp
end Go.Df
namespace Go.Proofs.YtincpmdldpakkaaGreatDoor
open Go.RowKit Go.Df Go.Df.Iv Go.Df.Sp
attribute [local go_sem ↓] Go.wp_at_zero Go.wp_at_succ
theorem vseed_info : (Tryz.prog.info? 80).map (fun i => (i.zero,i.size,i.bytes)) = some (some (.agg #[.int .i64 0,.int .i64 0,.int .i64 0,.int .i64 0]),4,32):=by kernel_rfl
theorem rows_info : (Tryz.prog.info? 27).map (fun i => (i.zero,i.size,i.bytes)) = some (some (.slice none 0 0),1,24):=by kernel_rfl
theorem rowp_info : (Tryz.prog.info? 122).map (fun i => (i.zero,i.size,i.bytes)) = some (some (.slice none 0 0),1,24):=by kernel_rfl
theorem vcells_len : ∀ l : List Vs,(vcells l).length = l.length * 4
 | [] => rfl
 | u :: l => by
   have h : vcells (u :: l) = [.int .i64 u.n,.int .i64 u.f,.int .i64 u.k,.int .i64 u.v] ++ vcells l:=rfl
   simp only [h,List.length_append,List.length_cons,List.length_nil,vcells_len l]
   omega
theorem vcells_at : ∀ (l : List Vs) {i : Nat},i < l.length → (vcells l)[i * 4]? = some (.int .i64 (gs l i).n) ∧ (vcells l)[i * 4 + 1]? = some (.int .i64 (gs l i).f) ∧ (vcells l)[i * 4 + 2]? = some (.int .i64 (gs l i).k) ∧ (vcells l)[i * 4 + 3]? = some (.int .i64 (gs l i).v)
 | u :: l,0,_ => by simp [vcells,gs]
 | u :: l,i + 1,h => by
   have h1:=vcells_at l (i:=i) (by simpa using h)
   have e : vcells (u :: l) = [.int .i64 u.n,.int .i64 u.f,.int .i64 u.k,.int .i64 u.v] ++ vcells l:=rfl
   have eg : gs (u :: l) (i + 1) = gs l i:=by simp [gs]
   rw [e,eg]
   have hh : ∀ x,x < 4 → ([Value.int .i64 u.n,.int .i64 u.f,.int .i64 u.k,.int .i64 u.v] ++ vcells l)[(i + 1) * 4 + x]? = (vcells l)[i * 4 + x]?:=fun x hx => by
     rw [List.getElem?_append_right (by simp;omega)]
     congr 1
     simp;omega
   exact ⟨(hh 0 (by omega)).trans h1.1,(hh 1 (by omega)).trans h1.2.1,(hh 2 (by omega)).trans h1.2.2.1,(hh 3 (by omega)).trans h1.2.2.2⟩
theorem vss_of_own {w : World} {base : Nat} {e : TypeId} {v : Value} {n : Nat} {l : List Vs} (h : w.ownsRow base e 4 v n (vcells l)) : ∃ A c,v = .slice A n c ∧ Vss w A n l ∧ ∀ a,A = some a → base ≤ a.block ∧ a.block < w.heap.size:=by
 have hl : l.length = n:=by have h1:=h.1;rw [vcells_len] at h1;omega
 rcases Nat.eq_zero_or_pos n with h0 | h0
 · subst h0
   rcases h.2 with ⟨rfl,_⟩ | ⟨g,cap,cur,rfl,hb,hh,_⟩
   · exact ⟨none,0,rfl,⟨hl,fun h => absurd h (by omega)⟩,fun a h => by cases h⟩
   · refine ⟨_,_,rfl,⟨hl,fun h => absurd h (by omega)⟩,fun a ha => ?_⟩
     injection ha with ha
     subst ha
     exact ⟨hb,(Array.getElem?_eq_some_iff.1 hh).1⟩
 · obtain ⟨g,c,rfl,hb,hgl,-,-,hc,-⟩:=own_cellsT h h0
   refine ⟨_,_,rfl,⟨hl,fun _ => ⟨g,0,rfl,hgl,fun i hi => ?_⟩⟩,fun a ha => ?_⟩
   · obtain ⟨a1,a2,a3,a4⟩:=vcells_at l (i:=i) (by omega)
     simp only [Nat.zero_add]
     exact ⟨(hc _ (by omega)).trans a1,(hc _ (by omega)).trans a2,(hc _ (by omega)).trans a3,(hc _ (by omega)).trans a4⟩
   · injection ha with ha
     subst ha
     exact ⟨hb,hgl⟩
def GetNew (p : Vb) (w : World) (A1 A2 A3 A4 : Option Addr) (n1 c1 n2 c2 n3 c3 n4 c4 : Nat) (e : Ending) (w' : World) : Prop :=
 ∃ (K : Kn) (g : Nat) (O : Nat → Prop) (G : Gh),e = .returned (.pointer (some ⟨g,0,none⟩)) ∧ Inp p K w ∧ Mem p K w g O G w' st0 ∧ K.A1 = A1 ∧ K.n1 = n1 ∧ K.c1 = c1 ∧ K.A2 = A2 ∧ K.n2 = n2 ∧ K.c2 = c2 ∧ K.A3 = A3 ∧ K.n3 = n3 ∧ K.c3 = c3 ∧ K.A4 = A4 ∧ K.n4 = n4 ∧ K.c4 = c4
set_option maxRecDepth 100000 in
set_option maxHeartbeats 100000000 in
theorem new_any {p : Vb} (A1 A2 A3 A4 : Option Addr) (n1 c1 n2 c2 n3 c3 n4 c4 : Nat) (mN : Nat) (F : Int) (w : World) (hmn : p.mn = (mN : Int)) (hF : p.F = F) (hnd : Nds w A1 n1 p.ns) (hed : Eds w A2 n2 p.es) (hfl : Fls w A3 n3 p.fl) (hfc : ∀ b o i A n c,A3 = some ⟨b,o,none⟩ → i < n3 → w.cell? ⟨b,o + i,none⟩ = some (.slice A n c) → n ≤ c) (hsd : Vss w A4 n4 p.sd) (ho : VOk p) (hn4 : n4 ≤ 1000000) :
   Calls Tryz.prog 75 #[.agg #[.slice A1 n1 c1,.slice A2 n2 c2,.int .i64 (mN : Nat),.int .i64 F,.slice A3 n3 c3,.slice A4 n4 c4]] w (GetNew p w A1 A2 A3 A4 n1 c1 n2 c2 n3 c3 n4 c4):=by
 have hN2 : n1 ≤ 8192:=by have:=(If.sup_parts ho.sup).1;have:=hnd.1;omega
 have hE2 : n2 ≤ 32768:=by have:=(If.sup_parts ho.sup).2.1;have:=hed.1;omega
 have HMN:=Lib.hid hmn
 have HF:=Lib.hid hF
 have HND:=Lib.hid hnd
 have HED:=Lib.hid hed
 have HFL:=Lib.hid hfl
 have HFC:=Lib.hid hfc
 have HSD:=Lib.hid hsd
 have HO:=Lib.hid ho
 obtain ⟨MI,hMI⟩ : ∃ M,(List.replicate n1 (Value.int .i64 0)).toArray = M:=⟨_,rfl⟩
 obtain ⟨MR,hMR⟩ : ∃ M,(List.replicate n1 (Value.slice none 0 0)).toArray = M:=⟨_,rfl⟩
 obtain ⟨MS,hMS⟩ : ∃ M,(List.replicate n1 (Value.slice none 0 0)).toArray = M:=⟨_,rfl⟩
 obtain ⟨MX,hMX⟩ : ∃ M,(List.replicate n1 (Value.map none)).toArray = M:=⟨_,rfl⟩
 obtain ⟨ME,hME⟩ : ∃ M,(List.replicate n2 (Value.map none)).toArray = M:=⟨_,rfl⟩
 obtain ⟨MP,hMP⟩ : ∃ M,(List.replicate n1 (Value.slice none 0 0)).toArray = M:=⟨_,rfl⟩
 obtain ⟨i1,j1,j2,j3,j4⟩:=info_parts inti_info
 obtain ⟨i2,l1,l2,l3,l4⟩:=info_parts rowi_info
 obtain ⟨i3,m1,m2,m3,m4⟩:=info_parts rowp_info
 obtain ⟨i4,o1,o2,o3,o4⟩:=info_parts rows_info
 obtain ⟨i5,q1,q2,q3,q4⟩:=info_parts vseed_info
 have hmkI:=fun w => run_make1 (P:=Tryz.prog) Tryz.underlying30 j1 j2 j3 j4 rfl n1 (by omega) (by omega) MI hMI w
 have hmkR:=fun w => run_make1 (P:=Tryz.prog) Tryz.underlying49 l1 l2 l3 l4 rfl n1 (by omega) (by omega) MR hMR w
 have hmkS:=fun w => run_make1 (P:=Tryz.prog) Tryz.underlying88 o1 o2 o3 o4 rfl n1 (by omega) (by omega) MS hMS w
 have hmkP:=fun w => run_make1 (P:=Tryz.prog) Tryz.underlying95 m1 m2 m3 m4 rfl n1 (by omega) (by omega) MP hMP w
 have HMI:=Lib.hid hMI
 have HMR:=Lib.hid hMR
 have HMS:=Lib.hid hMS
 have HMX:=Lib.hid hMX
 have HME:=Lib.hid hME
 have HMP:=Lib.hid hMP
 clear hMI hMR hMS hMX hME hMP hmn hF hnd hed hfl hfc hsd ho
 go_enter Tryz.func75,Tryz.ntmps75
 go_upto_region 1 with fail
 refine wp_named (fun W => ∃ b0,w.heap.size = b0 ∧ Blk W b0 [.slice A1 n1 c1,.slice A2 n2 c2,.int .i64 (mN : Nat),.int .i64 F,.slice A3 n3 c3,.slice A4 n4 c4] ∧ Below w.heap.size w W) ⟨_,rfl,?_,?_⟩ ?_
 · exact kbn
 · go_grown
 rintro W ⟨b0,e0,B0,hB⟩
 rw [e0]
 have G0 : w.heap.size ≤ b0:=by omega
 clear e0
 have ⟨L0,C0,F0⟩:=B0
 go_upto_region 2 with fail
 refine wp_region_E 30 (fun w' => SX0 W w') (by kernel_rfl) (by (exact kp0)) (fun hHeld => ?_)
 refine WE_tk 0 ?_
 refine WE_tk 1 ?_
 refine WE_tk 3 ?_
 refine WE_tk 5 ?_
 refine WE_tk 7 ?_
 refine WE_tk 9 ?_
 refine WE_tk 11 ?_
 refine WE_tk 13 ?_
 refine WE_tk 15 ?_
 refine WE_tk 17 ?_
 refine WE_tk 19 ?_
 refine WE_tk 20 ?_
 refine WE_tk 21 ?_
 refine WE_tk 22 ?_
 refine WE_tk 24 ?_
 refine WE_tk 26 ?_
 refine WE_R [2,4,6,8,10,12,14,16,18,23,25,27,28,29] (fun j v w t => match j with | 2 => ∃ g,v = .slice (some ⟨g,0,none⟩) n1 n1 ∧ ObjT w t g (.cells MI 3 (0,0)) 1 ∧ W.heap.size ≤ g | 4 => ∃ g,v = .slice (some ⟨g,0,none⟩) n1 n1 ∧ ObjT w t g (.cells MR 30 (0,0)) 2 ∧ W.heap.size ≤ g | 6 => ∃ g,v = .slice (some ⟨g,0,none⟩) n1 n1 ∧ ObjT w t g (.cells MR 30 (0,0)) 3 ∧ W.heap.size ≤ g | 8 => ∃ g,v = .slice (some ⟨g,0,none⟩) n1 n1 ∧ ObjT w t g (.cells MR 30 (0,0)) 4 ∧ W.heap.size ≤ g | 10 => ∃ g,v = .slice (some ⟨g,0,none⟩) n1 n1 ∧ ObjT w t g (.cells MR 30 (0,0)) 5 ∧ W.heap.size ≤ g | 12 => ∃ g,v = .slice (some ⟨g,0,none⟩) n1 n1 ∧ ObjT w t g (.cells MS 27 (0,0)) 6 ∧ W.heap.size ≤ g | 14 => ∃ g,v = .agg #[.slice (some ⟨g,0,none⟩) n1 n1] ∧ ObjT w t g (.cells MX 84 (0,0)) 7 ∧ W.heap.size ≤ g | 16 => ∃ g,v = .agg #[.slice (some ⟨g,0,none⟩) n1 n1] ∧ ObjT w t g (.cells MX 233 (0,0)) 8 ∧ W.heap.size ≤ g | 18 => ∃ g,v = .agg #[.slice (some ⟨g,0,none⟩) n1 n1] ∧ ObjT w t g (.cells MX 233 (0,0)) 9 ∧ W.heap.size ≤ g | 23 => ∃ g,v = .agg #[.slice (some ⟨g,0,none⟩) n2 n2] ∧ ObjT w t g (.cells ME 233 (0,0)) 10 ∧ W.heap.size ≤ g | 25 => ∃ g,v = .agg #[.slice (some ⟨g,0,none⟩) n1 n1] ∧ ObjT w t g (.cells MX 179 (0,0)) 11 ∧ W.heap.size ≤ g | 27 => ∃ g,v = .slice (some ⟨g,0,none⟩) n1 n1 ∧ ObjT w t g (.cells MP 122 (0,0)) 12 ∧ W.heap.size ≤ g | 28 => ∃ g2 g4 g6 g8 g10 g12 g14 g16 g18 g23 g25 g27,v = .agg #[.slice A1 n1 c1,.slice A2 n2 c2,.int .i64 (mN : Nat),.int .i64 F,.slice A3 n3 c3,.slice A4 n4 c4,.slice (some ⟨g2,0,none⟩) n1 n1,.slice (some ⟨g4,0,none⟩) n1 n1,.slice (some ⟨g6,0,none⟩) n1 n1,.slice (some ⟨g8,0,none⟩) n1 n1,.slice (some ⟨g10,0,none⟩) n1 n1,.slice (some ⟨g12,0,none⟩) n1 n1,.slice (some ⟨g14,0,none⟩) n1 n1,.slice (some ⟨g16,0,none⟩) n1 n1,.slice (some ⟨g18,0,none⟩) n1 n1,.slice (some ⟨g23,0,none⟩) n2 n2,.slice (some ⟨g25,0,none⟩) n1 n1,.slice (some ⟨g27,0,none⟩) n1 n1,.slice none 0 0,.slice none 0 0] ∧ Pcv W.heap.size (.cells MI 3 (0,0)) (.cells MR 30 (0,0)) (.cells MS 27 (0,0)) (.cells MX 84 (0,0)) (.cells MX 233 (0,0)) (.cells ME 233 (0,0)) (.cells MX 179 (0,0)) (.cells MP 122 (0,0)) w t g2 g4 g6 g8 g10 g12 g14 g16 g18 g23 g25 g27 | 29 => ∃ g g2 g4 g6 g8 g10 g12 g14 g16 g18 g23 g25 g27,v = .pointer (some ⟨g,0,none⟩) ∧ ObjT w t g (.cells #[.slice A1 n1 c1,.slice A2 n2 c2,.int .i64 (mN : Nat),.int .i64 F,.slice A3 n3 c3,.slice A4 n4 c4,.slice (some ⟨g2,0,none⟩) n1 n1,.slice (some ⟨g4,0,none⟩) n1 n1,.slice (some ⟨g6,0,none⟩) n1 n1,.slice (some ⟨g8,0,none⟩) n1 n1,.slice (some ⟨g10,0,none⟩) n1 n1,.slice (some ⟨g12,0,none⟩) n1 n1,.slice (some ⟨g14,0,none⟩) n1 n1,.slice (some ⟨g16,0,none⟩) n1 n1,.slice (some ⟨g18,0,none⟩) n1 n1,.slice (some ⟨g23,0,none⟩) n2 n2,.slice (some ⟨g25,0,none⟩) n1 n1,.slice (some ⟨g27,0,none⟩) n1 n1,.slice none 0 0,.slice none 0 0] 99 (0,0)) 13 ∧ Pcv W.heap.size (.cells MI 3 (0,0)) (.cells MR 30 (0,0)) (.cells MS 27 (0,0)) (.cells MX 84 (0,0)) (.cells MX 233 (0,0)) (.cells ME 233 (0,0)) (.cells MX 179 (0,0)) (.cells MP 122 (0,0)) w t g2 g4 g6 g8 g10 g12 g14 g16 g18 g23 g25 g27 ∧ W.heap.size ≤ g | _ => False) rfl (by kernel_rfl) (fun vs => by simp only [putU,dstOf,Option.bind,List.getElem?_cons_zero,List.getElem?_cons_succ,Act.put,List.setIfInBounds_toArray,List.set_cons_zero,List.set_cons_succ];rfl) ?_ ?_ ?_ ?_
 · intro j hj
   simp only [List.mem_cons,List.not_mem_nil,or_false] at hj
   rcases hj with rfl | rfl | rfl | rfl | rfl | rfl | rfl | rfl | rfl | rfl | rfl | rfl | rfl | rfl
   all_goals (intro v w t w' t' h hg;revert h;(repeat' first | (with_reducible exact id) | (exact fun h => BlkT.grow h hg) | (exact fun h => ObjT.grow h hg) | (exact fun h => Pcs.grow h hg) | (exact fun h => Pcv.grow h hg) | (exact fun h => hg.1.blk (by simp) h) | (exact fun h => Nat.lt_of_lt_of_le h hg.1.size) | (refine Exists.imp (fun _ => ?_)) | (refine And.imp ?_ ?_)))
 · intro w9 t9 hg9;(have hHeld9:=keptTrans hHeld.1 hg9.1);exact SX0.of hHeld9
 · refine ⟨?_,?_,?_,?_,?_,?_,?_,?_,?_,?_,?_,?_,?_,?_,trivial⟩
   · refine ⟨_,_,rfl,[],by kernel_rfl,fun vs w t hg hyp K hK => ?_⟩
     (try dsimp only)
     have hHg:=keptTrans hHeld.1 hg.1
     have hHs:=SX0.of hHg
     go_simp
     refine hK.out ?_ _ _ (Go.Df.mark t w.heap.size 1) ?_ ?_ ?_
     rotate_left
     · simp only [Act.put,List.setIfInBounds_toArray,List.set_cons_zero,List.set_cons_succ];rfl
     · exact Grow.mark ((Kept.refl _ _).alloc _) (Nat.le_refl _)
     · exact ⟨_,rfl,ObjT.new _ _ _ _,hHg.size⟩
   · refine ⟨_,_,rfl,[],by kernel_rfl,fun vs w t hg hyp K hK => ?_⟩
     (try dsimp only)
     have hHg:=keptTrans hHeld.1 hg.1
     have hHs:=SX0.of hHg
     go_simp
     refine hK.out ?_ _ _ (Go.Df.mark t w.heap.size 2) ?_ ?_ ?_
     rotate_left
     · simp only [Act.put,List.setIfInBounds_toArray,List.set_cons_zero,List.set_cons_succ];rfl
     · exact Grow.mark ((Kept.refl _ _).alloc _) (Nat.le_refl _)
     · exact ⟨_,rfl,ObjT.new _ _ _ _,hHg.size⟩
   · refine ⟨_,_,rfl,[],by kernel_rfl,fun vs w t hg hyp K hK => ?_⟩
     (try dsimp only)
     have hHg:=keptTrans hHeld.1 hg.1
     have hHs:=SX0.of hHg
     go_simp
     refine hK.out ?_ _ _ (Go.Df.mark t w.heap.size 3) ?_ ?_ ?_
     rotate_left
     · simp only [Act.put,List.setIfInBounds_toArray,List.set_cons_zero,List.set_cons_succ];rfl
     · exact Grow.mark ((Kept.refl _ _).alloc _) (Nat.le_refl _)
     · exact ⟨_,rfl,ObjT.new _ _ _ _,hHg.size⟩
   · refine ⟨_,_,rfl,[],by kernel_rfl,fun vs w t hg hyp K hK => ?_⟩
     (try dsimp only)
     have hHg:=keptTrans hHeld.1 hg.1
     have hHs:=SX0.of hHg
     go_simp
     refine hK.out ?_ _ _ (Go.Df.mark t w.heap.size 4) ?_ ?_ ?_
     rotate_left
     · simp only [Act.put,List.setIfInBounds_toArray,List.set_cons_zero,List.set_cons_succ];rfl
     · exact Grow.mark ((Kept.refl _ _).alloc _) (Nat.le_refl _)
     · exact ⟨_,rfl,ObjT.new _ _ _ _,hHg.size⟩
   · refine ⟨_,_,rfl,[],by kernel_rfl,fun vs w t hg hyp K hK => ?_⟩
     (try dsimp only)
     have hHg:=keptTrans hHeld.1 hg.1
     have hHs:=SX0.of hHg
     go_simp
     refine hK.out ?_ _ _ (Go.Df.mark t w.heap.size 5) ?_ ?_ ?_
     rotate_left
     · simp only [Act.put,List.setIfInBounds_toArray,List.set_cons_zero,List.set_cons_succ];rfl
     · exact Grow.mark ((Kept.refl _ _).alloc _) (Nat.le_refl _)
     · exact ⟨_,rfl,ObjT.new _ _ _ _,hHg.size⟩
   · refine ⟨_,_,rfl,[],by kernel_rfl,fun vs w t hg hyp K hK => ?_⟩
     (try dsimp only)
     have hHg:=keptTrans hHeld.1 hg.1
     have hHs:=SX0.of hHg
     go_simp
     refine hK.out ?_ _ _ (Go.Df.mark t w.heap.size 6) ?_ ?_ ?_
     rotate_left
     · simp only [Act.put,List.setIfInBounds_toArray,List.set_cons_zero,List.set_cons_succ];rfl
     · exact Grow.mark ((Kept.refl _ _).alloc _) (Nat.le_refl _)
     · exact ⟨_,rfl,ObjT.new _ _ _ _,hHg.size⟩
   · refine ⟨_,_,rfl,[],by kernel_rfl,fun vs w t hg hyp K hK => ?_⟩
     (try dsimp only)
     have hHg:=keptTrans hHeld.1 hg.1
     have hHs:=SX0.of hHg
     go_simp
     (go_at_call 129;refine (newX_any n1 _ (by omega) MX HMX.out).mono ?_;rintro e w9 ⟨g9,rfl,hh9,hg9,hb9⟩)
     (try go_wp2_with fail)
     refine hK.out ?_ _ _ (Go.Df.mark t g9 7) ?_ ?_ ?_
     rotate_left
     · simp only [Act.put,List.setIfInBounds_toArray,List.set_cons_zero,List.set_cons_succ];rfl
     · exact Grow.mark ((Kept.refl _ _).call hb9) hg9
     · exact ⟨_,rfl,ObjT.at hh9,Nat.le_trans hHg.size hg9⟩
   · refine ⟨_,_,rfl,[14],by kernel_rfl,fun vs w t hg hyp K hK => ?_⟩
     (try dsimp only)
     dsimp only [HypsR] at hyp
     obtain ⟨⟨g14,hx14,-⟩,-⟩:=hyp
     have hHg:=keptTrans hHeld.1 hg.1
     have hHs:=SX0.of hHg
     go_simp
     (go_at_call 130;refine (newL_any n1 _ (by omega) MX HMX.out).mono ?_;rintro e w9 ⟨g9,rfl,hh9,hg9,hb9⟩)
     (try go_wp2_with fail)
     refine hK.out ?_ _ _ (Go.Df.mark t g9 8) ?_ ?_ ?_
     rotate_left
     · simp only [Act.put,List.setIfInBounds_toArray,List.set_cons_zero,List.set_cons_succ,hx14];rfl
     · exact Grow.mark ((Kept.refl _ _).call hb9) hg9
     · exact ⟨_,rfl,ObjT.at hh9,Nat.le_trans hHg.size hg9⟩
   · refine ⟨_,_,rfl,[16],by kernel_rfl,fun vs w t hg hyp K hK => ?_⟩
     (try dsimp only)
     dsimp only [HypsR] at hyp
     obtain ⟨⟨g16,hx16,-⟩,-⟩:=hyp
     have hHg:=keptTrans hHeld.1 hg.1
     have hHs:=SX0.of hHg
     go_simp
     (go_at_call 130;refine (newL_any n1 _ (by omega) MX HMX.out).mono ?_;rintro e w9 ⟨g9,rfl,hh9,hg9,hb9⟩)
     (try go_wp2_with fail)
     refine hK.out ?_ _ _ (Go.Df.mark t g9 9) ?_ ?_ ?_
     rotate_left
     · simp only [Act.put,List.setIfInBounds_toArray,List.set_cons_zero,List.set_cons_succ,hx16];rfl
     · exact Grow.mark ((Kept.refl _ _).call hb9) hg9
     · exact ⟨_,rfl,ObjT.at hh9,Nat.le_trans hHg.size hg9⟩
   · refine ⟨_,_,rfl,[18],by kernel_rfl,fun vs w t hg hyp K hK => ?_⟩
     (try dsimp only)
     dsimp only [HypsR] at hyp
     obtain ⟨⟨g18,hx18,-⟩,-⟩:=hyp
     have hHg:=keptTrans hHeld.1 hg.1
     have hHs:=SX0.of hHg
     go_simp
     (go_at_call 130;refine (newL_any n2 _ (by omega) ME HME.out).mono ?_;rintro e w9 ⟨g9,rfl,hh9,hg9,hb9⟩)
     (try go_wp2_with fail)
     refine hK.out ?_ _ _ (Go.Df.mark t g9 10) ?_ ?_ ?_
     rotate_left
     · simp only [Act.put,List.setIfInBounds_toArray,List.set_cons_zero,List.set_cons_succ,hx18];rfl
     · exact Grow.mark ((Kept.refl _ _).call hb9) hg9
     · exact ⟨_,rfl,ObjT.at hh9,Nat.le_trans hHg.size hg9⟩
   · refine ⟨_,_,rfl,[23],by kernel_rfl,fun vs w t hg hyp K hK => ?_⟩
     (try dsimp only)
     dsimp only [HypsR] at hyp
     obtain ⟨⟨g23,hx23,-⟩,-⟩:=hyp
     have hHg:=keptTrans hHeld.1 hg.1
     have hHs:=SX0.of hHg
     go_simp
     (go_at_call 131;refine (newV_any n1 _ (by omega) MX HMX.out).mono ?_;rintro e w9 ⟨g9,rfl,hh9,hg9,hb9⟩)
     (try go_wp2_with fail)
     refine hK.out ?_ _ _ (Go.Df.mark t g9 11) ?_ ?_ ?_
     rotate_left
     · simp only [Act.put,List.setIfInBounds_toArray,List.set_cons_zero,List.set_cons_succ,hx23];rfl
     · exact Grow.mark ((Kept.refl _ _).call hb9) hg9
     · exact ⟨_,rfl,ObjT.at hh9,Nat.le_trans hHg.size hg9⟩
   · refine ⟨_,_,rfl,[],by kernel_rfl,fun vs w t hg hyp K hK => ?_⟩
     (try dsimp only)
     have hHg:=keptTrans hHeld.1 hg.1
     have hHs:=SX0.of hHg
     go_simp
     refine hK.out ?_ _ _ (Go.Df.mark t w.heap.size 12) ?_ ?_ ?_
     rotate_left
     · simp only [Act.put,List.setIfInBounds_toArray,List.set_cons_zero,List.set_cons_succ];rfl
     · exact Grow.mark ((Kept.refl _ _).alloc _) (Nat.le_refl _)
     · exact ⟨_,rfl,ObjT.new _ _ _ _,hHg.size⟩
   · refine ⟨_,_,rfl,[2,4,6,8,10,12,14,16,18,23,25,27],by kernel_rfl,fun vs w t hg hyp K hK => ?_⟩
     (try dsimp only)
     dsimp only [HypsR] at hyp
     obtain ⟨⟨g2,hx2,hg2⟩,⟨g4,hx4,hg4⟩,⟨g6,hx6,hg6⟩,⟨g8,hx8,hg8⟩,⟨g10,hx10,hg10⟩,⟨g12,hx12,hg12⟩,⟨g14,hx14,hg14⟩,⟨g16,hx16,hg16⟩,⟨g18,hx18,hg18⟩,⟨g23,hx23,hg23⟩,⟨g25,hx25,hg25⟩,⟨g27,hx27,hg27⟩,-⟩:=hyp
     have hHg:=keptTrans hHeld.1 hg.1
     have hHs:=SX0.of hHg
     go_simp
     refine hK.out ?_ _ _ t ?_ ?_ ?_
     rotate_left
     · simp only [Act.put,List.setIfInBounds_toArray,List.set_cons_zero,List.set_cons_succ,hx2,hx4,hx6,hx8,hx10,hx12,hx14,hx16,hx18,hx23,hx25,hx27];rfl
     · exact Grow.refl _ _
     · exact ⟨g2,g4,g6,g8,g10,g12,g14,g16,g18,g23,g25,g27,rfl,⟨hg2,hg4,hg6,hg8,hg10,hg12,hg14,hg16,hg18,hg23,hg25,hg27⟩⟩
   · refine ⟨_,_,rfl,[28],by kernel_rfl,fun vs w t hg hyp K hK => ?_⟩
     (try dsimp only)
     dsimp only [HypsR] at hyp
     obtain ⟨⟨g2,g4,g6,g8,g10,g12,g14,g16,g18,g23,g25,g27,hx28,PC⟩,-⟩:=hyp
     have hHg:=keptTrans hHeld.1 hg.1
     have hHs:=SX0.of hHg
     go_simp
     refine hK.out ?_ _ _ (Go.Df.mark t w.heap.size 13) ?_ ?_ ?_
     rotate_left
     · simp only [Act.put,List.setIfInBounds_toArray,List.set_cons_zero,List.set_cons_succ,hx28];rfl
     · exact Grow.mark ((Kept.refl _ _).alloc _) (Nat.le_refl _)
     · exact ⟨_,g2,g4,g6,g8,g10,g12,g14,g16,g18,g23,g25,g27,rfl,ObjT.new _ _ _ _,PC.grow (Grow.mark ((Kept.refl _ _).alloc _) (Nat.le_refl _)),hHg.size⟩
 intro vs wz tz hgz hyp K hK
 (try dsimp only)
 dsimp only [HypsR] at hyp
 generalize vs 2 = x2 at hyp ⊢
 generalize vs 4 = x4 at hyp ⊢
 generalize vs 6 = x6 at hyp ⊢
 generalize vs 8 = x8 at hyp ⊢
 generalize vs 10 = x10 at hyp ⊢
 generalize vs 12 = x12 at hyp ⊢
 generalize vs 14 = x14 at hyp ⊢
 generalize vs 16 = x16 at hyp ⊢
 generalize vs 18 = x18 at hyp ⊢
 generalize vs 23 = x23 at hyp ⊢
 generalize vs 25 = x25 at hyp ⊢
 generalize vs 27 = x27 at hyp ⊢
 generalize vs 28 = x28 at hyp ⊢
 generalize vs 29 = x29 at hyp ⊢
 obtain ⟨-,-,-,-,-,-,-,-,-,-,-,-,-,⟨g,g2,g4,g6,g8,g10,g12,g14,g16,g18,g23,g25,g27,rfl,BG,PC,hgW⟩,-⟩:=hyp
 have hHz:=keptTrans hHeld.1 hgz.1
 clear hHeld
 skip
 go_simp
 refine hK.out _ _ ?_
 clear hK K
 refine then_named (fun V => ∃ t,ObjT V t g (.cells #[.slice A1 n1 c1,.slice A2 n2 c2,.int .i64 (mN : Nat),.int .i64 F,.slice A3 n3 c3,.slice A4 n4 c4,.slice (some ⟨g2,0,none⟩) n1 n1,.slice (some ⟨g4,0,none⟩) n1 n1,.slice (some ⟨g6,0,none⟩) n1 n1,.slice (some ⟨g8,0,none⟩) n1 n1,.slice (some ⟨g10,0,none⟩) n1 n1,.slice (some ⟨g12,0,none⟩) n1 n1,.slice (some ⟨g14,0,none⟩) n1 n1,.slice (some ⟨g16,0,none⟩) n1 n1,.slice (some ⟨g18,0,none⟩) n1 n1,.slice (some ⟨g23,0,none⟩) n2 n2,.slice (some ⟨g25,0,none⟩) n1 n1,.slice (some ⟨g27,0,none⟩) n1 n1,.slice none 0 0,.slice none 0 0] 99 (0,0)) 13 ∧ Pcv W.heap.size (.cells MI 3 (0,0)) (.cells MR 30 (0,0)) (.cells MS 27 (0,0)) (.cells MX 84 (0,0)) (.cells MX 233 (0,0)) (.cells ME 233 (0,0)) (.cells MX 179 (0,0)) (.cells MP 122 (0,0)) V t g2 g4 g6 g8 g10 g12 g14 g16 g18 g23 g25 g27 ∧ Kept [] W V) ⟨tz,BG,PC,hHz⟩ ?_
 rintro V ⟨t,BGv,PCv,hkV⟩
 have HBG:=Lib.hid BGv
 have HPC:=Lib.hid PCv
 have hWg:=hgW
 have BV : Blk V g [.slice A1 n1 c1,.slice A2 n2 c2,.int .i64 (mN : Nat),.int .i64 F,.slice A3 n3 c3,.slice A4 n4 c4,.slice (some ⟨g2,0,none⟩) n1 n1,.slice (some ⟨g4,0,none⟩) n1 n1,.slice (some ⟨g6,0,none⟩) n1 n1,.slice (some ⟨g8,0,none⟩) n1 n1,.slice (some ⟨g10,0,none⟩) n1 n1,.slice (some ⟨g12,0,none⟩) n1 n1,.slice (some ⟨g14,0,none⟩) n1 n1,.slice (some ⟨g16,0,none⟩) n1 n1,.slice (some ⟨g18,0,none⟩) n1 n1,.slice (some ⟨g23,0,none⟩) n2 n2,.slice (some ⟨g25,0,none⟩) n1 n1,.slice (some ⟨g27,0,none⟩) n1 n1,.slice none 0 0,.slice none 0 0]:=blk_of_obj BGv.heap
 have ⟨LV,CV,FV⟩:=BV
 have HBV:=Lib.hid BV
 clear BGv PCv BG PC hHz hgz C0 F0 hmkI hmkR hmkS hmkP BV
 go_upto_region 4 with (go_at_call 132;refine (new_ok none 0 0 [] _ ⟨rfl,fun h => absurd h (by omega)⟩ (by omega) (fun _ => rfl)).mono ?_;rintro e w1 ⟨rA,rn,rc,qA,qn,qc,rfl,hr1,hq1,hb1,hfr1,hfq1⟩;have ⟨LV1,CV1,FV1⟩:=(HBV.out.later hb1))
 obtain rfl : rn = 0:=hr1.1.1.symm
 obtain rfl : qn = 0:=hq1.1.1.symm
 have hTg : Tag w1 g 99:=(show Tag V g 99 from ⟨_,HBG.out.heap⟩).same (((Kept.refl [] V).call hb1).block g HBV.out.1 (by simp))
 refine wp_named (fun X => Kept [g] w1 X ∧ Blk X g [.slice A1 n1 c1,.slice A2 n2 c2,.int .i64 (mN : Nat),.int .i64 F,.slice A3 n3 c3,.slice A4 n4 c4,.slice (some ⟨g2,0,none⟩) n1 n1,.slice (some ⟨g4,0,none⟩) n1 n1,.slice (some ⟨g6,0,none⟩) n1 n1,.slice (some ⟨g8,0,none⟩) n1 n1,.slice (some ⟨g10,0,none⟩) n1 n1,.slice (some ⟨g12,0,none⟩) n1 n1,.slice (some ⟨g14,0,none⟩) n1 n1,.slice (some ⟨g16,0,none⟩) n1 n1,.slice (some ⟨g18,0,none⟩) n1 n1,.slice (some ⟨g23,0,none⟩) n2 n2,.slice (some ⟨g25,0,none⟩) n1 n1,.slice (some ⟨g27,0,none⟩) n1 n1,.slice rA 0 rc,.slice qA 0 qc] ∧ Tag X g 99) ⟨((Kept.refl [g] w1).set g 18 _ (.inl (by simp))).set g 19 _ (.inl (by simp)),((HBV.out.later hb1).set 18 _).set 19 _,(hTg.set _ _ _).set _ _ _⟩ ?_
 rintro V3 ⟨hk3,BX,hTg3⟩
 have hkWV : Kept [] W w1:=hkV.call hb1
 have hgw1 : g < w1.heap.size:=Nat.lt_of_lt_of_le HBV.out.1 hb1.size
 have hkW3 : Kept [] W V3:=kept_fresh hkWV hk3 (by simpa using hWg)
 have hk03 : Kept [g] V V3:=Kept.next (keptWide ((Kept.refl [] V).call hb1) (by simp)) hk3 (fun y hy => .inl hy)
 have O2:=Lib.hid ((hk03.block g2 HPC.out.h2.1.lt (by simpa using HPC.out.h2.1.ne HBG.out (by decide))).trans HPC.out.h2.1.heap)
 have O4:=Lib.hid ((hk03.block g4 HPC.out.h4.1.lt (by simpa using HPC.out.h4.1.ne HBG.out (by decide))).trans HPC.out.h4.1.heap)
 have O6:=Lib.hid ((hk03.block g6 HPC.out.h6.1.lt (by simpa using HPC.out.h6.1.ne HBG.out (by decide))).trans HPC.out.h6.1.heap)
 have O8:=Lib.hid ((hk03.block g8 HPC.out.h8.1.lt (by simpa using HPC.out.h8.1.ne HBG.out (by decide))).trans HPC.out.h8.1.heap)
 have O10:=Lib.hid ((hk03.block g10 HPC.out.h10.1.lt (by simpa using HPC.out.h10.1.ne HBG.out (by decide))).trans HPC.out.h10.1.heap)
 have O12:=Lib.hid ((hk03.block g12 HPC.out.h12.1.lt (by simpa using HPC.out.h12.1.ne HBG.out (by decide))).trans HPC.out.h12.1.heap)
 have O14:=Lib.hid ((hk03.block g14 HPC.out.h14.1.lt (by simpa using HPC.out.h14.1.ne HBG.out (by decide))).trans HPC.out.h14.1.heap)
 have O16:=Lib.hid ((hk03.block g16 HPC.out.h16.1.lt (by simpa using HPC.out.h16.1.ne HBG.out (by decide))).trans HPC.out.h16.1.heap)
 have O18:=Lib.hid ((hk03.block g18 HPC.out.h18.1.lt (by simpa using HPC.out.h18.1.ne HBG.out (by decide))).trans HPC.out.h18.1.heap)
 have O23:=Lib.hid ((hk03.block g23 HPC.out.h23.1.lt (by simpa using HPC.out.h23.1.ne HBG.out (by decide))).trans HPC.out.h23.1.heap)
 have O25:=Lib.hid ((hk03.block g25 HPC.out.h25.1.lt (by simpa using HPC.out.h25.1.ne HBG.out (by decide))).trans HPC.out.h25.1.heap)
 have O27:=Lib.hid ((hk03.block g27 HPC.out.h27.1.lt (by simpa using HPC.out.h27.1.ne HBG.out (by decide))).trans HPC.out.h27.1.heap)
 have HBX:=Lib.hid BX
 have HTG:=Lib.hid hTg3
 have HR1 : Hid (SIn V3 rA 0 rc []):=Lib.hid (by exact ⟨⟨rfl,fun h => absurd h (by omega)⟩,hr1.2⟩)
 have HQ1 : Hid (SIn V3 qA 0 qc []):=Lib.hid (by exact ⟨⟨rfl,fun h => absurd h (by omega)⟩,hq1.2⟩)
 have B03:=Lib.hid (hkW3.blk (by simp) B0)
 have hb0W:=B0.1
 have hg2W:=HPC.out.h2.2
 have hg2g : g2 ≠ g:=HPC.out.h2.1.ne HBG.out (by decide)
 have hg2b : g2 ≠ b0:=by omega
 have hkw3 : Kept [] w V3:=keptTrans ((Kept.refl _ _).call hB) hkW3
 have I0 : Hid (IntA V3 g2 n1 (fun x => if x < 0 then If.stOf p.ns x else 0)):=Lib.hid ⟨(Array.getElem?_eq_some_iff.1 O2.out).1,fun x hx => by have h9:=rep_at (v:=Value.int .i64 0) hx;rw [HMI.out] at h9;simpa [World.cell?,O2.out] using h9,fun x => by simp [World.frozen?,O2.out]⟩
 clear CV FV CV1 FV1 hr1 hq1 hfr1 hfq1 hkV hkWV BX hk03
 have ⟨LX3,CX3,FX3⟩:=HBX.out
 have ⟨L03,C03,F03⟩:=B03.out
 go_wp2_with fail
 go_loopw [5,59] (fun s5 s59 wr => ∃ (i a : Nat),i ≤ n1 ∧ s5 = .int .i64 a ∧ s59 = .int .i64 i ∧ Kept [g2] V3 wr ∧ Hid (IntA wr g2 n1 (fun x => if x < i then If.stOf p.ns x else 0)) ∧ Hid (a = if i = 0 then 0 else If.stOf p.ns (i - 1))) (fun _ s59 _ => n1 - (intOf s59).toNat)
 case atStart => exact ⟨0,0,Nat.zero_le _,rfl,rfl,Kept.refl _ _,I0,rfl⟩
 case round =>
 clear I0 CX3 FX3 C03 F03
 obtain ⟨i,a,hi,rfl,rfl,hkr,IR,HA⟩:=hrel
 have ⟨LXr,CXr,FXr⟩:=hkr.blk (by simpa using hg2g.symm) HBX.out
 have ⟨L0r,C0r,F0r⟩:=hkr.blk (by simpa using hg2b.symm) B03.out
 by_cases hlt : i < n1
 · obtain ⟨b1,o1,rfl,hl1,hc1⟩:=HND.out.2 (by omega)
   obtain ⟨r1,r2,r3⟩:=hc1 i hlt
   have hl1g : b1 ≠ g2:=by have:=hB.size;omega
   have hl13 : b1 < V3.heap.size:=Nat.lt_of_lt_of_le hl1 hkw3.size
   replace r1:=(hkr.cell b1 _ hl13 (by simpa using hl1g)).trans ((hkw3.cell b1 _ hl1 (by simp)).trans r1)
   replace r2:=(hkr.cell b1 _ hl13 (by simpa using hl1g)).trans ((hkw3.cell b1 _ hl1 (by simp)).trans r2)
   replace r3:=(hkr.cell b1 _ hl13 (by simpa using hl1g)).trans ((hkw3.cell b1 _ hl1 (by simp)).trans r3)
   have hl1r : b1 < wr.heap.size:=Nat.lt_of_lt_of_le hl13 hkr.size
   obtain ⟨nf,nk,ni,en⟩ : ∃ nf nk ni,gn p.ns i = ⟨nf,nk,ni⟩:=⟨_,_,_,rfl⟩
   rw [en] at r1 r2 r3
   have HEN:=Lib.hid en
   have hi1 : (i : Int) < (n1 : Int):=by omega
   clear hc1 en
   go_upto_region 8 with fail
   refine wp_named (fun X => ∃ y,wr.heap.size = y ∧ Blk X y [.int .i64 nf,.int .i64 nk,.int .i64 ni] ∧ Kept [] wr X) ⟨_,rfl,Blk.new _ _ _ _ rfl,(Kept.refl _ _).alloc _⟩ ?_
   rintro X ⟨y,ey,By,hkX⟩
   rw [ey]
   have ⟨Ly,Cy,Fy⟩:=By
   have ⟨LXx,CXx,FXx⟩:=hkX.blk (by simp) (hkr.blk (by simpa using hg2g.symm) HBX.out)
   have IX:=Lib.hid (IR.out.kept hkX (by simp))
   have ci:=IX.out.2.1 i hlt
   have fi:=IX.out.2.2 i
   have hg2X:=IX.out.1
   have hkrX : Kept [g2] V3 X:=hkr.next hkX (by simp)
   clear r1 r2 r3 CXr FXr C0r F0r ey
   by_cases k1 : nk = 1
   · subst k1
     have hS : Hid (IntA (X.setCell ⟨g2,i,none⟩ (.int .i64 (i : Nat))) g2 n1 (fun x => if x < i + 1 then If.stOf p.ns x else 0)):=Lib.hid (IX.out.set i i (fun x hx => by
       by_cases e : x = i
       · subst e
         rw [if_pos rfl,if_pos (by omega)]
         cases x with
         | zero => rfl
         | succ x => rw [If.stOf,if_pos (by rw [HEN.out])]
       · rw [if_neg e]
         by_cases e2 : x < i
         · rw [if_pos (by omega),if_pos e2]
         · rw [if_neg (by omega),if_neg e2]))
     have hA : Hid (i = if i + 1 = 0 then 0 else If.stOf p.ns (i + 1 - 1)):=by
       show _ = _
       rw [if_neg (by omega),Nat.add_sub_cancel]
       cases i with
       | zero => rfl
       | succ i => rw [If.stOf,if_pos (by rw [HEN.out])]
     go_wp2_with fail
     exact ⟨⟨i + 1,i,by omega,rfl,by go_num,hkrX.set g2 i _ (.inl (by simp)),hS,hA⟩,by simp [intOf];omega⟩
   · have k1' : (nk == 1) = false:=by simpa using k1
     have hst : a = If.stOf p.ns i:=by
       rw [HA.out]
       cases i with
       | zero => rfl
       | succ i => rw [if_neg (by omega),Nat.add_sub_cancel,If.stOf,if_neg (by rw [HEN.out];exact k1)]
     have HST:=Lib.hid hst
     have hS : Hid (IntA (X.setCell ⟨g2,i,none⟩ (.int .i64 (a : Nat))) g2 n1 (fun x => if x < i + 1 then If.stOf p.ns x else 0)):=Lib.hid (IX.out.set i a (fun x hx => by
       by_cases e : x = i
       · subst e
         rw [if_pos rfl,if_pos (by omega),HST.out]
       · rw [if_neg e]
         by_cases e2 : x < i
         · rw [if_pos (by omega),if_pos e2]
         · rw [if_neg (by omega),if_neg e2]))
     have hA : Hid (a = if i + 1 = 0 then 0 else If.stOf p.ns (i + 1 - 1)):=by
       show _ = _
       rw [if_neg (by omega),Nat.add_sub_cancel,HST.out]
     clear k1 hst
     go_wp2_with fail
     exact ⟨⟨i + 1,a,by omega,rfl,by go_num,hkrX.set g2 i _ (.inl (by simp)),hS,hA⟩,by simp [intOf];omega⟩
 obtain rfl : n1 = i:=by omega
 have hg3 : g < V3.heap.size:=HBX.out.1
 have hg23 : g ≠ g23:=fun e => (HPC.out.h23.1.ne HBG.out (by decide)) e.symm
 have hgn : g ∉ [g2,g4,g6,g8,g10,g12,g23]:=by
   have h1:=HBG.out.ne HPC.out.h2.1 (by decide);have h2:=HBG.out.ne HPC.out.h4.1 (by decide);have h3:=HBG.out.ne HPC.out.h6.1 (by decide);have h4:=HBG.out.ne HPC.out.h8.1 (by decide);have h5:=HBG.out.ne HPC.out.h10.1 (by decide);have h6:=HBG.out.ne HPC.out.h12.1 (by decide);have h7:=HBG.out.ne HPC.out.h23.1 (by decide)
   simp [h1,h2,h3,h4,h5,h6,h7]
 have hXW : ∀ x ∈ [g2,g4,g6,g8,g10,g12,g23],W.heap.size ≤ x:=fun x hx => by
   have h1:=HPC.out.h2.2;have h2:=HPC.out.h4.2;have h3:=HPC.out.h6.2;have h4:=HPC.out.h8.2;have h5:=HPC.out.h10.2;have h6:=HPC.out.h12.2;have h7:=HPC.out.h23.2
   simp at hx
   rcases hx with rfl | rfl | rfl | rfl | rfl | rfl | rfl <;> assumption
 have HXW:=Lib.hid hXW
 have hb0n : b0 ∉ [g2,g4,g6,g8,g10,g12,g23]:=fun hm => by have:=hXW _ hm;omega
 have h23V : g23 < V3.heap.size:=(Array.getElem?_eq_some_iff.1 O23.out).1
 have HG2R : Hid (∀ t,t < 5 → g2 ≠ (rsel5 g4 g6 g8 g10 g12) t):=Lib.hid (fun t ht => by
   match t,ht with
   | 0,_ => exact HPC.out.h2.1.ne HPC.out.h4.1 (by decide)
   | 1,_ => exact HPC.out.h2.1.ne HPC.out.h6.1 (by decide)
   | 2,_ => exact HPC.out.h2.1.ne HPC.out.h8.1 (by decide)
   | 3,_ => exact HPC.out.h2.1.ne HPC.out.h10.1 (by decide)
   | 4,_ => exact HPC.out.h2.1.ne HPC.out.h12.1 (by decide))
 have HR23 : Hid (∀ t,t < 5 → (rsel5 g4 g6 g8 g10 g12) t ≠ g23):=Lib.hid (fun t ht => by
   match t,ht with
   | 0,_ => exact HPC.out.h4.1.ne HPC.out.h23.1 (by decide)
   | 1,_ => exact HPC.out.h6.1.ne HPC.out.h23.1 (by decide)
   | 2,_ => exact HPC.out.h8.1.ne HPC.out.h23.1 (by decide)
   | 3,_ => exact HPC.out.h10.1.ne HPC.out.h23.1 (by decide)
   | 4,_ => exact HPC.out.h12.1.ne HPC.out.h23.1 (by decide))
 have hobj : ∀ t,t < 5 → ∃ ty,V3.heap[(rsel5 g4 g6 g8 g10 g12) t]? = some (.cells MR ty (0,0)):=fun t ht => by
   match t,ht with
   | 0,_ => exact ⟨_,O4.out⟩
   | 1,_ => exact ⟨_,O6.out⟩
   | 2,_ => exact ⟨_,O8.out⟩
   | 3,_ => exact ⟨_,O10.out⟩
   | 4,_ => exact ⟨_,by have h9:=O12.out;rw [← HMS.out] at h9;rw [← HMR.out];exact h9⟩
 have hRR : ∀ t t',t < 5 → t' < 5 → (rsel5 g4 g6 g8 g10 g12) t = (rsel5 g4 g6 g8 g10 g12) t' → t = t':=fun t t' ht ht' e => by
   match t,t',ht,ht' with
   | 0,0,_,_ => rfl
   | 0,1,_,_ => exact absurd e (HPC.out.h4.1.ne HPC.out.h6.1 (by decide))
   | 0,2,_,_ => exact absurd e (HPC.out.h4.1.ne HPC.out.h8.1 (by decide))
   | 0,3,_,_ => exact absurd e (HPC.out.h4.1.ne HPC.out.h10.1 (by decide))
   | 0,4,_,_ => exact absurd e (HPC.out.h4.1.ne HPC.out.h12.1 (by decide))
   | 1,0,_,_ => exact absurd e (HPC.out.h6.1.ne HPC.out.h4.1 (by decide))
   | 1,1,_,_ => rfl
   | 1,2,_,_ => exact absurd e (HPC.out.h6.1.ne HPC.out.h8.1 (by decide))
   | 1,3,_,_ => exact absurd e (HPC.out.h6.1.ne HPC.out.h10.1 (by decide))
   | 1,4,_,_ => exact absurd e (HPC.out.h6.1.ne HPC.out.h12.1 (by decide))
   | 2,0,_,_ => exact absurd e (HPC.out.h8.1.ne HPC.out.h4.1 (by decide))
   | 2,1,_,_ => exact absurd e (HPC.out.h8.1.ne HPC.out.h6.1 (by decide))
   | 2,2,_,_ => rfl
   | 2,3,_,_ => exact absurd e (HPC.out.h8.1.ne HPC.out.h10.1 (by decide))
   | 2,4,_,_ => exact absurd e (HPC.out.h8.1.ne HPC.out.h12.1 (by decide))
   | 3,0,_,_ => exact absurd e (HPC.out.h10.1.ne HPC.out.h4.1 (by decide))
   | 3,1,_,_ => exact absurd e (HPC.out.h10.1.ne HPC.out.h6.1 (by decide))
   | 3,2,_,_ => exact absurd e (HPC.out.h10.1.ne HPC.out.h8.1 (by decide))
   | 3,3,_,_ => rfl
   | 3,4,_,_ => exact absurd e (HPC.out.h10.1.ne HPC.out.h12.1 (by decide))
   | 4,0,_,_ => exact absurd e (HPC.out.h12.1.ne HPC.out.h4.1 (by decide))
   | 4,1,_,_ => exact absurd e (HPC.out.h12.1.ne HPC.out.h6.1 (by decide))
   | 4,2,_,_ => exact absurd e (HPC.out.h12.1.ne HPC.out.h8.1 (by decide))
   | 4,3,_,_ => exact absurd e (HPC.out.h12.1.ne HPC.out.h10.1 (by decide))
   | 4,4,_,_ => rfl
 have hMRi : ∀ i,i < n1 → MR[i]? = some (.slice none 0 0):=fun i hi => by rw [← HMR.out];exact rep_at hi
 have hR0 : Rg eT eZ V3.heap.size V3 (rsel5 g4 g6 g8 g10 g12) n1 (fun _ _ => .slice none 0 0) (NKf (LE p 0) (SE p 0)) (CKf (LE p 0) (SE p 0)):=by
   rw [NKf_nil,CKf_nil]
   refine ⟨fun t i ht hi => ?_,fun t i ht => ?_,fun t ht => ?_,Nat.le_refl _,hRR,fun t i ht hi => ⟨by simp,.inl ⟨rfl,rfl⟩⟩,fun t i t' i' x _ _ _ _ h _ => by cases h⟩
   · obtain ⟨ty,h9⟩:=hobj t ht
     simp [World.cell?,h9,hMRi i hi]
   · obtain ⟨ty,h9⟩:=hobj t ht
     simp [World.frozen?,h9]
   · obtain ⟨ty,h9⟩:=hobj t ht
     exact (Array.getElem?_eq_some_iff.1 h9).1
 have hE0 : En V3.heap.size V3 g23 n2 (fun _ => none) (fun _ => 0) (fun _ _ => .slice none 0 0) (EL p 0 0) (EC p 0 0):=by
   refine ⟨⟨⟨ME,O23.out,by rw [← HME.out];simp,fun n hn => by rw [← HME.out];exact rep_at hn⟩,fun _ _ _ h => (by cases h),fun _ _ _ _ => rfl,fun _ _ _ _ _ h => (by cases h)⟩,fun k b hk => ?_,fun _ _ _ _ _ _ _ h _ => (by cases h),fun _ _ _ h => (by cases h),h23V,fun _ _ => Nat.zero_le _⟩
   rw [EL_zero]
   exact ⟨rfl,.inl ⟨rfl,rfl⟩⟩
 have hX2 : ∀ x ∈ [g2],x < V3.heap.size ∧ ∀ t,t < 5 → x ≠ (rsel5 g4 g6 g8 g10 g12) t:=fun x hx => by
   simp at hx
   subst hx
   exact ⟨(Array.getElem?_eq_some_iff.1 O2.out).1,HG2R.out⟩
 have B0D : Hid (Bd p V3 wr [g2,g4,g6,g8,g10,g12,g23] g2 (rsel5 g4 g6 g8 g10 g12) g23 n1 n2 (LE p 0) (SE p 0) (EL p 0 0) (EC p 0 0) (fun _ _ => .slice none 0 0) (fun _ => none) (fun _ => 0) (fun _ _ => .slice none 0 0)):=Lib.hid
   { kept:=keptWide hkr (by simp),st:=⟨IR.out.1,fun x hx => (IR.out.2.1 x hx).trans (by simp [hx]),IR.out.2.2⟩,rg:=hR0.kept hkr hX2,en:=hE0.low hkr (fun x hx => ⟨(hX2 x hx).1,by simp at hx;subst hx;exact HPC.out.h2.1.ne HPC.out.h23.1 (by decide)⟩),cd:=fun x ⟨_,_,_,_,h⟩ => (by cases h),xr:=fun t ht => (by
     match t,ht with
     | 0,_ => show g4 ∈ _;simp
     | 1,_ => show g6 ∈ _;simp
     | 2,_ => show g8 ∈ _;simp
     | 3,_ => show g10 ∈ _;simp
     | 4,_ => show g12 ∈ _;simp),xe:=by simp,gl:=(Array.getElem?_eq_some_iff.1 O2.out).1,gr:=HG2R.out,ge:=HPC.out.h2.1.ne HPC.out.h23.1 (by decide),re:=HR23.out }
 clear hobj hRR hMRi hR0 hE0 hX2 HA IR hi hlt hXW
 have ⟨LXr',CXr',FXr'⟩:=B0D.out.kept.blk hgn HBX.out
 go_wp2_with fail
 clear CXr FXr C0r F0r CXr' FXr'
 go_loopw [80] (fun s80 wq => ∃ (k : Nat) (v : Nat → Nat → Value) (m : Nat → Option Nat) (c : Nat → Nat) (ev : Nat → Value → Value),k ≤ n2 ∧ s80 = .int .i64 k ∧ Hid (Bd p V3 wq [g2,g4,g6,g8,g10,g12,g23] g2 (rsel5 g4 g6 g8 g10 g12) g23 n1 n2 (LE p k) (SE p 0) (EL p k 0) (EC p k 0) v m c ev)) (fun s80 _ => n2 - (intOf s80).toNat)
 case atStart => exact ⟨0,_,_,_,_,Nat.zero_le _,rfl,B0D⟩
 case round =>
 clear B0D hkr
 rename World => wq
 obtain ⟨k,v,m,c,ev,hk,rfl,BQ⟩:=hrel
 have ⟨LXq,CXq,FXq⟩:=BQ.out.kept.blk hgn HBX.out
 have ⟨L0q,C0q,F0q⟩:=BQ.out.kept.blk hb0n B03.out
 by_cases hlt : k < n2
 · obtain ⟨b2,o2,rfl,hl2,hc2⟩:=HED.out.2 (by omega)
   have hke : k < p.es.length:=by rw [HED.out.1];exact hlt
   obtain ⟨r1,r2,r3,r4⟩:=hc2 k hlt
   have hl23 : b2 < V3.heap.size:=Nat.lt_of_lt_of_le hl2 hkw3.size
   have hb2n : b2 ∉ [g2,g4,g6,g8,g10,g12,g23]:=fun hm => by have h1:=HXW.out _ hm;have h2:=hB.size;omega
   replace r1:=(BQ.out.kept.cell b2 _ hl23 hb2n).trans ((hkw3.cell b2 _ hl2 (by simp)).trans r1)
   replace r2:=(BQ.out.kept.cell b2 _ hl23 hb2n).trans ((hkw3.cell b2 _ hl2 (by simp)).trans r2)
   replace r3:=(BQ.out.kept.cell b2 _ hl23 hb2n).trans ((hkw3.cell b2 _ hl2 (by simp)).trans r3)
   replace r4:=(BQ.out.kept.cell b2 _ hl23 hb2n).trans ((hkw3.cell b2 _ hl2 (by simp)).trans r4)
   have hl2q : b2 < wq.heap.size:=Nat.lt_of_lt_of_le hl23 BQ.out.lim
   have hed:=HO.out.edge hke
   have hkf : k < n3:=by have:=HFL.out.1;have:=HO.out.len;omega
   obtain ⟨b3,o3,rfl,hl3,hcf⟩:=HFL.out.2 (by omega)
   have hflk : ∃ Ai ni ci,w.cell? ⟨b3,o3 + k,none⟩ = some (.slice Ai ni ci) ∧ Xps w Ai ni (gl p.fl k):=hcf k hkf
   clear hcf
   obtain ⟨ea,hea⟩:=Int.eq_ofNat_of_zero_le hed.1
   obtain ⟨eb,heb⟩:=Int.eq_ofNat_of_zero_le hed.2.2.1
   obtain ⟨ek,hek⟩ : ∃ x,(ge p.es k).k = x:=⟨_,rfl⟩
   obtain ⟨ec,hec⟩ : ∃ x,(ge p.es k).c = x:=⟨_,rfl⟩
   rw [hea] at r1
   rw [heb] at r2
   rw [hek] at r3
   rw [hec] at r4
   have hea1 : ea < n1:=by have h1:=HND.out.1;have h2:=hed.2.1;omega
   have heb1 : eb < n1:=by have h1:=HND.out.1;have h2:=hed.2.2.2.1;omega
   have HEA:=Lib.hid hea
   have HEB:=Lib.hid heb
   have HEK:=Lib.hid hek
   have HEC:=Lib.hid hec
   have HED2:=Lib.hid hed
   have hk1 : (k : Int) < (n2 : Int):=by omega
   have hea1' : (ea : Int) < (n1 : Int):=by omega
   have heb1' : (eb : Int) < (n1 : Int):=by omega
   clear hc2 hea heb hek hec hed
   go_upto_region 15 with fail
   refine wp_named (fun X => ∃ y,wq.heap.size = y ∧ Blk X y [.int .i64 ea,.int .i64 eb,.int .i64 ek,.int .i64 ec] ∧ Kept [] wq X) ⟨_,rfl,Blk.new _ _ _ _ rfl,(Kept.refl _ _).alloc _⟩ ?_
   rintro X1 ⟨y,ey,By,hkX⟩
   rw [ey]
   have HB1:=Lib.hid By
   have BD1:=Lib.hid (BQ.out.keep hkX)
   have HOW1 : Hid (∀ x,OW n1 n2 v m ev x → x ≠ y):=Lib.hid (fun x hx => by have:=(BQ.out.owlt hx).2;omega)
   have hy3 : V3.heap.size ≤ y:=by have:=BQ.out.lim;omega
   have hLL : ∀ t i,(LE p k t i).length ≤ 32768:=fun t i => by have:=LE_len p k t i;omega
   have HLE0:=Lib.hid hLL
   obtain ⟨L1,hL1⟩ : ∃ L,L = upd2 (LE p k) 0 ea (LE p k 0 ea ++ [k]):=⟨_,rfl⟩
   have HL1:=Lib.hid hL1
   have HLE1 : Hid (∀ t i,(L1 t i).length ≤ 32769):=Lib.hid (by rw [hL1];exact upd2_len hLL)
   have HLL1 : Hid (∀ i,NKf (LE p k) (SE p 0) 0 i ≤ 1000002):=Lib.hid (fun i => by show (LE p k 0 i).length ≤ _;have:=HLE0.out 0 i;omega)
   clear hL1 hLL By hkX BQ r1 r2 r3 r4 CXq FXq C0q F0q ey
   have ⟨LX1,CX1,FX1⟩:=BD1.out.kept.blk hgn HBX.out
   have ⟨Ly1,Cy1,Fy1⟩:=HB1.out
   have hgX1 : g < X1.heap.size:=LX1
   have hyX1 : y < X1.heap.size:=Ly1
   have h2X1 : g2 < X1.heap.size:=BD1.out.st.1
   obtain ⟨A91,m91,c91,hv91,hm91⟩ : ∃ A9 m9 c9,v 0 ea = .slice A9 m9 c9 ∧ m9 = NKf (LE p k) (SE p 0) 0 ea:=by
     rcases (BD1.out.rg.own 0 ea (by omega) hea1).2 with ⟨h1,h2⟩ | ⟨g',cap,cur,h1,_⟩
     · exact ⟨_,_,_,h1,h2.symm⟩
     · exact ⟨_,_,_,h1,rfl⟩
   have OWN1 : Hid (X1.ownsRow V3.heap.size 3 1 (.slice A91 m91 c91) m91 (CKf (LE p k) (SE p 0) 0 ea)):=Lib.hid (by have h9:=BD1.out.rg.own 0 ea (by omega) hea1;rw [hv91,← hm91] at h9;exact h9)
   have rX1 : X1.cell? ⟨g4,ea,none⟩ = some (.slice A91 m91 c91):=by rw [← hv91];exact BD1.out.rg.cell 0 ea (by omega) hea1
   have fX1 : X1.frozen? ⟨g4,ea,none⟩ = false:=BD1.out.rg.fr 0 ea (by omega)
   have hr31 : g4 < V3.heap.size:=BD1.out.rg.rlt 0 (by omega)
   have hrX1 : g4 < X1.heap.size:=Nat.lt_of_lt_of_le hr31 BD1.out.lim
   have oX1 : ∀ x,x ∈ (Value.slice A91 m91 c91).ownBlock.toList → V3.heap.size ≤ x ∧ x ≠ y:=fun x hx => by
     have h1 : (v 0 ea).ownBlock = some x:=by rw [hv91];simpa using hx
     have h2 : OW n1 n2 v m ev x:=.inl ⟨0,ea,by omega,hea1,h1⟩
     exact ⟨(BD1.out.owlt h2).1,HOW1.out x h2⟩
   have xg1 : g ∉ (Value.slice A91 m91 c91).ownBlock.toList:=fun hm => by have:=(oX1 g hm).1;have:=hg3;omega
   have x21 : g2 ∉ (Value.slice A91 m91 c91).ownBlock.toList:=fun hm => by have h1:=(oX1 g2 hm).1;have h2:=BD1.out.gl;omega
   have xy1 : y ∉ (Value.slice A91 m91 c91).ownBlock.toList:=fun hm => (oX1 _ hm).2 rfl
   have xr1 : g4 ∉ (Value.slice A91 m91 c91).ownBlock.toList:=fun hm => by have h1:=(oX1 _ hm).1;omega
   have hm9b1 : m91 ≤ 1000002:=by rw [hm91];exact HLL1.out ea
   have hlX1 : V3.heap.size ≤ X1.heap.size:=BD1.out.lim
   have HV91:=Lib.hid hv91
   have HM91:=Lib.hid hm91
   clear hv91 hm91 oX1
   go_upto_region 15 with fail
   refine wp_region_E 18 (fun w' => SXt (Value.slice A91 m91 c91).ownBlock.toList g y g4 X1 w') (by kernel_rfl) (by (first | (with_reducible assumption) | exact SXt.of (keptNil (Kept.refl _ _).drew) hgX1 hyX1 hrX1 xg1 xy1 xr1 | exact SXt.of (hHeld.1.alloc _) hgX1 hyX1 hrX1 xg1 xy1 xr1 | exact SXt.of HKA1.out hgX1 hyX1 hrX1 xg1 xy1 xr1)) (fun hHeld => ?_)
   refine WE_tk 0 ?_
   refine WE_tk 1 ?_
   refine WE_tk 2 ?_
   refine WE_tk 3 ?_
   refine WE_tk 4 ?_
   refine WE_tk 5 ?_
   refine WE_tk 6 ?_
   refine WE_tk 7 ?_
   refine WE_tk 8 ?_
   refine WE_tk 9 ?_
   refine WE_tk 10 ?_
   refine WE_tk 11 ?_
   refine WE_tk 12 ?_
   refine WE_tk 13 ?_
   refine WE_tk 14 ?_
   refine WE_step 15 rfl (by kernel_rfl) (fun K hK => ?_)
   go_simp
   refine hK.out _ _ ?_ (fun hHeld => ?_)
   · (first | (with_reducible assumption) | exact SXt.of (keptNil (Kept.refl _ _).drew) hgX1 hyX1 hrX1 xg1 xy1 xr1 | exact SXt.of (hHeld.1.alloc _) hgX1 hyX1 hrX1 xg1 xy1 xr1 | exact SXt.of HKA1.out hgX1 hyX1 hrX1 xg1 xy1 xr1)
   clear hK K
   refine WE_put ?_
   refine WE_step 16 rfl (by kernel_rfl) (fun K hK => ?_)
   (refine step_append_rd _ rfl _ _ 30 rfl V3.heap.size 3 i1 (.int .i64 0) 1 8 Tryz.underlying30 j1 j2 j3 j4 rfl (by decide) (.slice A91 m91 c91) m91 _ rfl (own_kept2 (X:=[]) OWN1.out (((Kept.refl [] X1).drew).alloc _) (by simp)) (some ⟨X1.heap.size,0,none⟩) 1 1 [.int .i64 (k : Nat)] rfl (Rd.new1 _ _ _ _ rfl) (fun h => by cases h) (by intro u hu;simp at hu;subst hu;rfl) (m91 + 1) rfl _ rfl (by unfold maxLen;omega) (by omega) (by simp;omega) ?_;intro A81 c81 w81 hown8 hk8 hat8;have hkA : Kept (Value.slice A91 m91 c91).ownBlock.toList X1 w81:=(keptNil (((Kept.refl [] X1).drew).alloc _)).next hk8 (fun y hy => Or.inl hy);have fX81:=(hkA.frozen _ ea hrX1 xr1).trans fX1;have HO81:=Lib.hid hown8;have HKA1:=Lib.hid hkA;have HAT1:=Lib.hid hat8;clear hown8 hk8 hat8 hkA)
   refine hK.out _ _ ?_ (fun hHeld => ?_)
   · (first | (with_reducible assumption) | exact SXt.of (keptNil (Kept.refl _ _).drew) hgX1 hyX1 hrX1 xg1 xy1 xr1 | exact SXt.of (hHeld.1.alloc _) hgX1 hyX1 hrX1 xg1 xy1 xr1 | exact SXt.of HKA1.out hgX1 hyX1 hrX1 xg1 xy1 xr1)
   clear hK K
   refine WE_put ?_
   refine WE_tk 17 ?_
   refine WE_last rfl (by kernel_rfl) (fun K hK => ?_)
   go_simp
   refine hK.out _ _ ?_
   clear hK K
   have hga1 : ∀ x,(Value.slice A81 (m91 + 1) c81).ownBlock = some x → (v 0 ea).ownBlock = some x ∨ X1.heap.size ≤ x:=fun x hx => by rw [HV91.out];rcases HAT1.out x hx with h1 | h1;(· exact .inl h1);(· right;rw [h1];simp)
   have hrow1:=BD1.out.row (t:=0) (i:=ea) (n':=m91 + 1) (v':=.slice A81 (m91 + 1) c81) (l':=CKf (LE p k) (SE p 0) 0 ea ++ [.int .i64 (k : Nat)]) (L':=L1) (S':=(SE p 0)) (by omega) hea1 (by rw [HV91.out];exact HKA1.out) HO81.out hga1 (by rw [HM91.out];exact (by rw [HL1.out];exact NK_up (by omega))) (by rw [HL1.out];exact CK_up (by omega))
   refine act_named (fun Z => Bd p V3 Z [g2,g4,g6,g8,g10,g12,g23] g2 (rsel5 g4 g6 g8 g10 g12) g23 n1 n2 L1 (SE p 0) (EL p k 0) (EC p k 0) (upd2 v 0 ea (.slice A81 (m91 + 1) c81)) m c ev ∧ Kept (g4 :: (Value.slice A91 m91 c91).ownBlock.toList) X1 Z) ⟨hrow1.1,by have h9:=hrow1.2.1;rw [HV91.out] at h9;exact h9⟩ ?_
   rintro Z1 ⟨hBZ1,hkZ1⟩
   have hOW1 : ∀ x,OW n1 n2 (upd2 v 0 ea (.slice A81 (m91 + 1) c81)) m ev x → x ≠ y:=fun x hx => by
     rcases hrow1.2.2 x hx with h1 | h1
     · exact HOW1.out x h1
     · have:=hyX1;omega
   obtain ⟨v1,hv1⟩ : ∃ z,z = upd2 v 0 ea (.slice A81 (m91 + 1) c81):=⟨_,rfl⟩
   rw [← hv1] at hBZ1 hOW1
   have BD2:=Lib.hid hBZ1
   have HOW2:=Lib.hid hOW1
   have hyn1 : y ∉ g4 :: (Value.slice A91 m91 c91).ownBlock.toList:=fun hm => by
     rcases List.mem_cons.1 hm with h1 | h1
     · have h2:=hy3;omega
     · exact xy1 h1
   have HB2:=Lib.hid (hkZ1.blk hyn1 HB1.out)
   clear hBZ1 hOW1 hv1 hrow1 hga1 hyn1 rX1 fX1 fX81 xg1 x21 xy1 xr1 OWN1 hlX1 hHeld
   have ⟨LX2,CX2,FX2⟩:=BD2.out.kept.blk hgn HBX.out
   have ⟨Ly2,Cy2,Fy2⟩:=HB2.out
   have hgX2 : g < Z1.heap.size:=LX2
   have hyX2 : y < Z1.heap.size:=Ly2
   have h2X2 : g2 < Z1.heap.size:=BD2.out.st.1
   clear CX1 FX1 Cy1 Fy1
   by_cases k2 : ek = 2
   · subst k2
     obtain ⟨L2,hL2⟩ : ∃ L,L = upd2 L1 1 eb (L1 1 eb ++ [k]):=⟨_,rfl⟩
     have HL2:=Lib.hid hL2
     have HLE2 : Hid (∀ t i,(L2 t i).length ≤ 32770):=Lib.hid (by rw [hL2];exact upd2_len HLE1.out)
     have HLL2 : Hid (∀ i,NKf L1 (SE p 0) 1 i ≤ 1000002):=Lib.hid (fun i => by show (L1 1 i).length ≤ _;have:=HLE1.out 1 i;omega)
     clear hL2
     obtain ⟨A92,m92,c92,hv92,hm92⟩ : ∃ A9 m9 c9,v1 1 eb = .slice A9 m9 c9 ∧ m9 = NKf L1 (SE p 0) 1 eb:=by
       rcases (BD2.out.rg.own 1 eb (by omega) heb1).2 with ⟨h1,h2⟩ | ⟨g',cap,cur,h1,_⟩
       · exact ⟨_,_,_,h1,h2.symm⟩
       · exact ⟨_,_,_,h1,rfl⟩
     have OWN2 : Hid (Z1.ownsRow V3.heap.size 3 1 (.slice A92 m92 c92) m92 (CKf L1 (SE p 0) 1 eb)):=Lib.hid (by have h9:=BD2.out.rg.own 1 eb (by omega) heb1;rw [hv92,← hm92] at h9;exact h9)
     have rX2 : Z1.cell? ⟨g6,eb,none⟩ = some (.slice A92 m92 c92):=by rw [← hv92];exact BD2.out.rg.cell 1 eb (by omega) heb1
     have fX2 : Z1.frozen? ⟨g6,eb,none⟩ = false:=BD2.out.rg.fr 1 eb (by omega)
     have hr32 : g6 < V3.heap.size:=BD2.out.rg.rlt 1 (by omega)
     have hrX2 : g6 < Z1.heap.size:=Nat.lt_of_lt_of_le hr32 BD2.out.lim
     have oX2 : ∀ x,x ∈ (Value.slice A92 m92 c92).ownBlock.toList → V3.heap.size ≤ x ∧ x ≠ y:=fun x hx => by
       have h1 : (v1 1 eb).ownBlock = some x:=by rw [hv92];simpa using hx
       have h2 : OW n1 n2 v1 m ev x:=.inl ⟨1,eb,by omega,heb1,h1⟩
       exact ⟨(BD2.out.owlt h2).1,HOW2.out x h2⟩
     have xg2 : g ∉ (Value.slice A92 m92 c92).ownBlock.toList:=fun hm => by have:=(oX2 g hm).1;have:=hg3;omega
     have x22 : g2 ∉ (Value.slice A92 m92 c92).ownBlock.toList:=fun hm => by have h1:=(oX2 g2 hm).1;have h2:=BD2.out.gl;omega
     have xy2 : y ∉ (Value.slice A92 m92 c92).ownBlock.toList:=fun hm => (oX2 _ hm).2 rfl
     have xr2 : g6 ∉ (Value.slice A92 m92 c92).ownBlock.toList:=fun hm => by have h1:=(oX2 _ hm).1;omega
     have hm9b2 : m92 ≤ 1000002:=by rw [hm92];exact HLL2.out eb
     have hlX2 : V3.heap.size ≤ Z1.heap.size:=BD2.out.lim
     have HV92:=Lib.hid hv92
     have HM92:=Lib.hid hm92
     clear hv92 hm92 oX2
     go_upto_region 18 with fail
     refine wp_region_E 18 (fun w' => SXt (Value.slice A92 m92 c92).ownBlock.toList g y g6 Z1 w') (by kernel_rfl) (by (first | (with_reducible assumption) | exact SXt.of (keptNil (Kept.refl _ _).drew) hgX2 hyX2 hrX2 xg2 xy2 xr2 | exact SXt.of (hHeld.1.alloc _) hgX2 hyX2 hrX2 xg2 xy2 xr2 | exact SXt.of HKA2.out hgX2 hyX2 hrX2 xg2 xy2 xr2)) (fun hHeld => ?_)
     refine WE_tk 0 ?_
     refine WE_tk 1 ?_
     refine WE_tk 2 ?_
     refine WE_tk 3 ?_
     refine WE_tk 4 ?_
     refine WE_tk 5 ?_
     refine WE_tk 6 ?_
     refine WE_tk 7 ?_
     refine WE_tk 8 ?_
     refine WE_tk 9 ?_
     refine WE_tk 10 ?_
     refine WE_tk 11 ?_
     refine WE_tk 12 ?_
     refine WE_tk 13 ?_
     refine WE_tk 14 ?_
     refine WE_step 15 rfl (by kernel_rfl) (fun K hK => ?_)
     go_simp
     refine hK.out _ _ ?_ (fun hHeld => ?_)
     · (first | (with_reducible assumption) | exact SXt.of (keptNil (Kept.refl _ _).drew) hgX2 hyX2 hrX2 xg2 xy2 xr2 | exact SXt.of (hHeld.1.alloc _) hgX2 hyX2 hrX2 xg2 xy2 xr2 | exact SXt.of HKA2.out hgX2 hyX2 hrX2 xg2 xy2 xr2)
     clear hK K
     refine WE_put ?_
     refine WE_step 16 rfl (by kernel_rfl) (fun K hK => ?_)
     (refine step_append_rd _ rfl _ _ 30 rfl V3.heap.size 3 i1 (.int .i64 0) 1 8 Tryz.underlying30 j1 j2 j3 j4 rfl (by decide) (.slice A92 m92 c92) m92 _ rfl (own_kept2 (X:=[]) OWN2.out (((Kept.refl [] Z1).drew).alloc _) (by simp)) (some ⟨Z1.heap.size,0,none⟩) 1 1 [.int .i64 (k : Nat)] rfl (Rd.new1 _ _ _ _ rfl) (fun h => by cases h) (by intro u hu;simp at hu;subst hu;rfl) (m92 + 1) rfl _ rfl (by unfold maxLen;omega) (by omega) (by simp;omega) ?_;intro A82 c82 w82 hown8 hk8 hat8;have hkA : Kept (Value.slice A92 m92 c92).ownBlock.toList Z1 w82:=(keptNil (((Kept.refl [] Z1).drew).alloc _)).next hk8 (fun y hy => Or.inl hy);have fX82:=(hkA.frozen _ eb hrX2 xr2).trans fX2;have HO82:=Lib.hid hown8;have HKA2:=Lib.hid hkA;have HAT2:=Lib.hid hat8;clear hown8 hk8 hat8 hkA)
     refine hK.out _ _ ?_ (fun hHeld => ?_)
     · (first | (with_reducible assumption) | exact SXt.of (keptNil (Kept.refl _ _).drew) hgX2 hyX2 hrX2 xg2 xy2 xr2 | exact SXt.of (hHeld.1.alloc _) hgX2 hyX2 hrX2 xg2 xy2 xr2 | exact SXt.of HKA2.out hgX2 hyX2 hrX2 xg2 xy2 xr2)
     clear hK K
     refine WE_put ?_
     refine WE_tk 17 ?_
     refine WE_last rfl (by kernel_rfl) (fun K hK => ?_)
     go_simp
     refine hK.out _ _ ?_
     clear hK K
     have hga2 : ∀ x,(Value.slice A82 (m92 + 1) c82).ownBlock = some x → (v1 1 eb).ownBlock = some x ∨ Z1.heap.size ≤ x:=fun x hx => by rw [HV92.out];rcases HAT2.out x hx with h1 | h1;(· exact .inl h1);(· right;rw [h1];simp)
     have hrow2:=BD2.out.row (t:=1) (i:=eb) (n':=m92 + 1) (v':=.slice A82 (m92 + 1) c82) (l':=CKf L1 (SE p 0) 1 eb ++ [.int .i64 (k : Nat)]) (L':=L2) (S':=(SE p 0)) (by omega) heb1 (by rw [HV92.out];exact HKA2.out) HO82.out hga2 (by rw [HM92.out];exact (by rw [HL2.out];exact NK_up (by omega))) (by rw [HL2.out];exact CK_up (by omega))
     refine act_named (fun Z => Bd p V3 Z [g2,g4,g6,g8,g10,g12,g23] g2 (rsel5 g4 g6 g8 g10 g12) g23 n1 n2 L2 (SE p 0) (EL p k 0) (EC p k 0) (upd2 v1 1 eb (.slice A82 (m92 + 1) c82)) m c ev ∧ Kept (g6 :: (Value.slice A92 m92 c92).ownBlock.toList) Z1 Z) ⟨hrow2.1,by have h9:=hrow2.2.1;rw [HV92.out] at h9;exact h9⟩ ?_
     rintro Z2 ⟨hBZ2,hkZ2⟩
     have hOW2 : ∀ x,OW n1 n2 (upd2 v1 1 eb (.slice A82 (m92 + 1) c82)) m ev x → x ≠ y:=fun x hx => by
       rcases hrow2.2.2 x hx with h1 | h1
       · exact HOW2.out x h1
       · have:=hyX2;omega
     obtain ⟨v2,hv2⟩ : ∃ z,z = upd2 v1 1 eb (.slice A82 (m92 + 1) c82):=⟨_,rfl⟩
     rw [← hv2] at hBZ2 hOW2
     have BD3:=Lib.hid hBZ2
     have HOW3:=Lib.hid hOW2
     have hyn2 : y ∉ g6 :: (Value.slice A92 m92 c92).ownBlock.toList:=fun hm => by
       rcases List.mem_cons.1 hm with h1 | h1
       · have h2:=hy3;omega
       · exact xy2 h1
     have HB3:=Lib.hid (hkZ2.blk hyn2 HB2.out)
     clear hBZ2 hOW2 hv2 hrow2 hga2 hyn2 rX2 fX2 fX82 xg2 x22 xy2 xr2 OWN2 hlX2 hHeld
     have ⟨LX3,CX3,FX3⟩:=BD3.out.kept.blk hgn HBX.out
     have ⟨Ly3,Cy3,Fy3⟩:=HB3.out
     have hgX3 : g < Z2.heap.size:=LX3
     have hyX3 : y < Z2.heap.size:=Ly3
     have h2X3 : g2 < Z2.heap.size:=BD3.out.st.1
     clear CX2 FX2 Cy2 Fy2
     obtain ⟨st,hst⟩ : ∃ st,If.stOf p.ns ea = st:=⟨_,rfl⟩
     have hst1 : st < n1:=by have:=If.stOf_le p.ns ea;omega
     have hst1' : (st : Int) < (n1 : Int):=by omega
     have HSTE:=Lib.hid hst
     have rS : Z2.cell? ⟨g2,ea,none⟩ = some (.int .i64 (st : Nat)):=by rw [← hst];exact BD3.out.st.2.1 ea hea1
     obtain ⟨L3,hL3⟩ : ∃ L,L = upd2 L2 2 st (L2 2 st ++ [k]):=⟨_,rfl⟩
     have HL3:=Lib.hid hL3
     have HLL3 : Hid (∀ i,NKf L2 (SE p 0) 2 i ≤ 1000002):=Lib.hid (fun i => by show (L2 2 i).length ≤ _;have:=HLE2.out 2 i;omega)
     clear hL3 hst
     obtain ⟨A93,m93,c93,hv93,hm93⟩ : ∃ A9 m9 c9,v2 2 st = .slice A9 m9 c9 ∧ m9 = NKf L2 (SE p 0) 2 st:=by
       rcases (BD3.out.rg.own 2 st (by omega) hst1).2 with ⟨h1,h2⟩ | ⟨g',cap,cur,h1,_⟩
       · exact ⟨_,_,_,h1,h2.symm⟩
       · exact ⟨_,_,_,h1,rfl⟩
     have OWN3 : Hid (Z2.ownsRow V3.heap.size 3 1 (.slice A93 m93 c93) m93 (CKf L2 (SE p 0) 2 st)):=Lib.hid (by have h9:=BD3.out.rg.own 2 st (by omega) hst1;rw [hv93,← hm93] at h9;exact h9)
     have rX3 : Z2.cell? ⟨g8,st,none⟩ = some (.slice A93 m93 c93):=by rw [← hv93];exact BD3.out.rg.cell 2 st (by omega) hst1
     have fX3 : Z2.frozen? ⟨g8,st,none⟩ = false:=BD3.out.rg.fr 2 st (by omega)
     have hr33 : g8 < V3.heap.size:=BD3.out.rg.rlt 2 (by omega)
     have hrX3 : g8 < Z2.heap.size:=Nat.lt_of_lt_of_le hr33 BD3.out.lim
     have oX3 : ∀ x,x ∈ (Value.slice A93 m93 c93).ownBlock.toList → V3.heap.size ≤ x ∧ x ≠ y:=fun x hx => by
       have h1 : (v2 2 st).ownBlock = some x:=by rw [hv93];simpa using hx
       have h2 : OW n1 n2 v2 m ev x:=.inl ⟨2,st,by omega,hst1,h1⟩
       exact ⟨(BD3.out.owlt h2).1,HOW3.out x h2⟩
     have xg3 : g ∉ (Value.slice A93 m93 c93).ownBlock.toList:=fun hm => by have:=(oX3 g hm).1;have:=hg3;omega
     have x23 : g2 ∉ (Value.slice A93 m93 c93).ownBlock.toList:=fun hm => by have h1:=(oX3 g2 hm).1;have h2:=BD3.out.gl;omega
     have xy3 : y ∉ (Value.slice A93 m93 c93).ownBlock.toList:=fun hm => (oX3 _ hm).2 rfl
     have xr3 : g8 ∉ (Value.slice A93 m93 c93).ownBlock.toList:=fun hm => by have h1:=(oX3 _ hm).1;omega
     have hm9b3 : m93 ≤ 1000002:=by rw [hm93];exact HLL3.out st
     have hlX3 : V3.heap.size ≤ Z2.heap.size:=BD3.out.lim
     have HV93:=Lib.hid hv93
     have HM93:=Lib.hid hm93
     clear hv93 hm93 oX3
     go_upto_region 19 with fail
     refine wp_region_E 30 (fun w' => SXw (Value.slice A93 m93 c93).ownBlock.toList g y g8 g2 Z2 w') (by kernel_rfl) (by (first | (with_reducible assumption) | exact SXw.of (keptNil (Kept.refl _ _).drew) hgX3 hyX3 hrX3 h2X3 xg3 xy3 xr3 x23 | exact SXw.of (hHeld.1.alloc _) hgX3 hyX3 hrX3 h2X3 xg3 xy3 xr3 x23 | exact SXw.of HKA3.out hgX3 hyX3 hrX3 h2X3 xg3 xy3 xr3 x23)) (fun hHeld => ?_)
     refine WE_tk 0 ?_
     refine WE_tk 1 ?_
     refine WE_tk 2 ?_
     refine WE_tk 3 ?_
     refine WE_tk 4 ?_
     refine WE_tk 5 ?_
     refine WE_tk 6 ?_
     refine WE_tk 7 ?_
     refine WE_tk 8 ?_
     refine WE_tk 9 ?_
     refine WE_tk 10 ?_
     refine WE_tk 11 ?_
     refine WE_tk 12 ?_
     refine WE_tk 13 ?_
     refine WE_tk 14 ?_
     refine WE_tk 15 ?_
     refine WE_tk 16 ?_
     refine WE_tk 17 ?_
     refine WE_tk 18 ?_
     refine WE_tk 19 ?_
     refine WE_tk 20 ?_
     refine WE_tk 21 ?_
     refine WE_tk 22 ?_
     refine WE_tk 23 ?_
     refine WE_tk 24 ?_
     refine WE_tk 25 ?_
     refine WE_tk 26 ?_
     refine WE_step 27 rfl (by kernel_rfl) (fun K hK => ?_)
     go_simp
     refine hK.out _ _ ?_ (fun hHeld => ?_)
     · (first | (with_reducible assumption) | exact SXw.of (keptNil (Kept.refl _ _).drew) hgX3 hyX3 hrX3 h2X3 xg3 xy3 xr3 x23 | exact SXw.of (hHeld.1.alloc _) hgX3 hyX3 hrX3 h2X3 xg3 xy3 xr3 x23 | exact SXw.of HKA3.out hgX3 hyX3 hrX3 h2X3 xg3 xy3 xr3 x23)
     clear hK K
     refine WE_put ?_
     refine WE_step 28 rfl (by kernel_rfl) (fun K hK => ?_)
     (refine step_append_rd _ rfl _ _ 30 rfl V3.heap.size 3 i1 (.int .i64 0) 1 8 Tryz.underlying30 j1 j2 j3 j4 rfl (by decide) (.slice A93 m93 c93) m93 _ rfl (own_kept2 (X:=[]) OWN3.out (((Kept.refl [] Z2).drew).alloc _) (by simp)) (some ⟨Z2.heap.size,0,none⟩) 1 1 [.int .i64 (k : Nat)] rfl (Rd.new1 _ _ _ _ rfl) (fun h => by cases h) (by intro u hu;simp at hu;subst hu;rfl) (m93 + 1) rfl _ rfl (by unfold maxLen;omega) (by omega) (by simp;omega) ?_;intro A83 c83 w83 hown8 hk8 hat8;have hkA : Kept (Value.slice A93 m93 c93).ownBlock.toList Z2 w83:=(keptNil (((Kept.refl [] Z2).drew).alloc _)).next hk8 (fun y hy => Or.inl hy);have fX83:=(hkA.frozen _ st hrX3 xr3).trans fX3;have HO83:=Lib.hid hown8;have HKA3:=Lib.hid hkA;have HAT3:=Lib.hid hat8;clear hown8 hk8 hat8 hkA)
     refine hK.out _ _ ?_ (fun hHeld => ?_)
     · (first | (with_reducible assumption) | exact SXw.of (keptNil (Kept.refl _ _).drew) hgX3 hyX3 hrX3 h2X3 xg3 xy3 xr3 x23 | exact SXw.of (hHeld.1.alloc _) hgX3 hyX3 hrX3 h2X3 xg3 xy3 xr3 x23 | exact SXw.of HKA3.out hgX3 hyX3 hrX3 h2X3 xg3 xy3 xr3 x23)
     clear hK K
     refine WE_put ?_
     refine WE_tk 29 ?_
     refine WE_last rfl (by kernel_rfl) (fun K hK => ?_)
     go_simp
     refine hK.out _ _ ?_
     clear hK K
     have hga3 : ∀ x,(Value.slice A83 (m93 + 1) c83).ownBlock = some x → (v2 2 st).ownBlock = some x ∨ Z2.heap.size ≤ x:=fun x hx => by rw [HV93.out];rcases HAT3.out x hx with h1 | h1;(· exact .inl h1);(· right;rw [h1];simp)
     have hrow3:=BD3.out.row (t:=2) (i:=st) (n':=m93 + 1) (v':=.slice A83 (m93 + 1) c83) (l':=CKf L2 (SE p 0) 2 st ++ [.int .i64 (k : Nat)]) (L':=L3) (S':=(SE p 0)) (by omega) hst1 (by rw [HV93.out];exact HKA3.out) HO83.out hga3 (by rw [HM93.out];exact (by rw [HL3.out];exact NK_up (by omega))) (by rw [HL3.out];exact CK_up (by omega))
     refine act_named (fun Z => Bd p V3 Z [g2,g4,g6,g8,g10,g12,g23] g2 (rsel5 g4 g6 g8 g10 g12) g23 n1 n2 L3 (SE p 0) (EL p k 0) (EC p k 0) (upd2 v2 2 st (.slice A83 (m93 + 1) c83)) m c ev ∧ Kept (g8 :: (Value.slice A93 m93 c93).ownBlock.toList) Z2 Z) ⟨hrow3.1,by have h9:=hrow3.2.1;rw [HV93.out] at h9;exact h9⟩ ?_
     rintro Z3 ⟨hBZ3,hkZ3⟩
     have hOW3 : ∀ x,OW n1 n2 (upd2 v2 2 st (.slice A83 (m93 + 1) c83)) m ev x → x ≠ y:=fun x hx => by
       rcases hrow3.2.2 x hx with h1 | h1
       · exact HOW3.out x h1
       · have:=hyX3;omega
     obtain ⟨v3,hv3⟩ : ∃ z,z = upd2 v2 2 st (.slice A83 (m93 + 1) c83):=⟨_,rfl⟩
     rw [← hv3] at hBZ3 hOW3
     have BD4:=Lib.hid hBZ3
     have HOW4:=Lib.hid hOW3
     have hyn3 : y ∉ g8 :: (Value.slice A93 m93 c93).ownBlock.toList:=fun hm => by
       rcases List.mem_cons.1 hm with h1 | h1
       · have h2:=hy3;omega
       · exact xy3 h1
     have HB4:=Lib.hid (hkZ3.blk hyn3 HB3.out)
     clear hBZ3 hOW3 hv3 hrow3 hga3 hyn3 rX3 fX3 fX83 xg3 x23 xy3 xr3 OWN3 hlX3 hHeld
     have ⟨LX4,CX4,FX4⟩:=BD4.out.kept.blk hgn HBX.out
     have ⟨Ly4,Cy4,Fy4⟩:=HB4.out
     have hgX4 : g < Z3.heap.size:=LX4
     have hyX4 : y < Z3.heap.size:=Ly4
     have h2X4 : g2 < Z3.heap.size:=BD4.out.st.1
     clear CX3 FX3 Cy3 Fy3 rS
     obtain ⟨A5,ni,ci,r3f,hxps⟩:=hflk
     have hlen : (gl p.fl k).length = ni:=hxps.1
     have HLEN:=Lib.hid hlen
     have HPR:=Lib.hid hxps
     have hni2 : ni ≤ 8192:=by rw [← hlen];exact (HO.out.fl k (by rw [HO.out.len];exact hke)).1
     have h3w : b3 < V3.heap.size:=Nat.lt_of_lt_of_le hl3 hkw3.size
     have hb3n : b3 ∉ [g2,g4,g6,g8,g10,g12,g23]:=fun hm => by have h1:=HXW.out _ hm;have h2:=hB.size;omega
     have r3Z:=(BD4.out.kept.cell b3 _ h3w hb3n).trans ((hkw3.cell b3 _ hl3 (by simp)).trans r3f)
     have hl3Z : b3 < Z3.heap.size:=Nat.lt_of_lt_of_le h3w BD4.out.lim
     have ⟨L0Z,C0Z,F0Z⟩:=BD4.out.kept.blk hb0n B03.out
     have hk3f : (k : Int) < (n3 : Int):=by have:=HFL.out.1;have:=HO.out.len;omega
     have HLE : Hid (LE p (k + 1) = L3):=Lib.hid (LE_call HEK.out HEA.out HEB.out HSTE.out HL1.out HL2.out HL3.out)
     clear hlen hxps r3f
     go_wp2_with fail
     go_loopw [161] (fun s161 wz => ∃ (j : Nat) (m : Nat → Option Nat) (c : Nat → Nat) (ev : Nat → Value → Value),j ≤ (gl p.fl k).length ∧ s161 = .int .i64 j ∧ Hid (Bd p V3 wz [g2,g4,g6,g8,g10,g12,g23] g2 (rsel5 g4 g6 g8 g10 g12) g23 n1 n2 L3 (SE p 0) (EL p k j) (EC p k j) v3 m c ev)) (fun s161 _ => (gl p.fl k).length - (intOf s161).toNat)
     case atStart => exact ⟨0,m,c,ev,Nat.zero_le _,rfl,BD4⟩
     case round =>
     clear BD4 HOW4 r3Z C0Z F0Z CX4 FX4 Cy4 Fy4
     rename World => wz
     obtain ⟨j,m,c,ev,hj,rfl,BJ⟩:=hrel
     rw [HLEN.out] at hj
     have ⟨LXj,CXj,FXj⟩:=BJ.out.kept.blk hgn HBX.out
     by_cases hltj : j < ni
     case neg =>
       obtain rfl : j = ni:=by omega
       have BE : Hid (Bd p V3 wz [g2,g4,g6,g8,g10,g12,g23] g2 (rsel5 g4 g6 g8 g10 g12) g23 n1 n2 (LE p (k + 1)) (SE p 0) (EL p (k + 1) 0) (EC p (k + 1) 0) v3 m c ev):=Lib.hid (by rw [HLE.out,← EL_edge j (fun _ => HLEN.out.symm),← EC_edge j (fun _ => HLEN.out.symm)];exact BJ.out)
       go_wp2_with fail
       exact ⟨⟨k + 1,v3,m,c,ev,by omega,by go_num,BE⟩,by simp [intOf];omega⟩
     have HLJ:=Lib.hid (BJ.out.kept.below (hkw3.toBelow) hkw3.size (fun x hx => Nat.le_trans hB.size (HXW.out x hx)))
     obtain ⟨b5,o5,q,qi,qo,rfl,hl50,hl5,hjq,hqm,hqi,hqo,hqiF,hqoF,r50,r51,r52,r53,r54⟩:=xps_at HO.out HLJ.out (l:=gl p.fl k) (fun q hq => hq) HPR.out hltj
     have hgxq : gx (gl p.fl k) j = q:=by
       have hj' : j < (gl p.fl k).length:=by rw [HLEN.out];exact hltj
       rw [gx_lt hj']
       rw [List.getElem?_eq_getElem hj'] at hjq
       exact Option.some.inj hjq
     have HQO : Hid ((gx (gl p.fl k) j).o = (qo : Int)):=Lib.hid (by rw [hgxq];exact hqo)
     obtain ⟨qk,hqk⟩ : ∃ v,q.k = v:=⟨_,rfl⟩
     obtain ⟨qb,hqb⟩ : ∃ v,q.b = v:=⟨_,rfl⟩
     obtain ⟨qc,hqc⟩ : ∃ v,q.c = v:=⟨_,rfl⟩
     rw [hqk] at r52
     rw [hqb] at r53
     rw [hqc] at r54
     have hj1 : (j : Int) < (ni : Int):=by omega
     have hqo9 : qo ≤ 1024:=by have:=HO.out.f2;omega
     clear hjq hqm hqi hqo hgxq hqk hqb hqc
     go_upto_region 23 with fail
     refine wp_named (fun X => ∃ y,wz.heap.size = y ∧ Blk X y [.int .i64 (qi : Nat),.int .i64 (qo : Nat),.int .i64 qk,.int .i64 qb,.int .i64 qc] ∧ Kept [] wz X) ⟨_,rfl,Blk.new _ _ _ _ rfl,(Kept.refl _ _).alloc _⟩ ?_
     rintro V7 ⟨gq,egq,Bgq,hkV7⟩
     rw [egq]
     have ⟨LQ,CQ,FQ⟩:=Bgq
     have B7:=Lib.hid (BJ.out.keep hkV7)
     have ⟨LX7,CX7,FX7⟩:=B7.out.kept.blk hgn HBX.out
     have hgqz : wz.heap.size ≤ gq:=by omega
     have hOWq : ∀ x,OW n1 n2 v3 m ev x → x ≠ gq:=fun x hx => by have:=(BJ.out.owlt hx).2;omega
     clear r50 r51 r52 r53 r54 CXj FXj egq
     obtain ⟨Al,nl,cl,hpl,hnl⟩ : ∃ A9 m9 c9,ev k (.int .i64 (qo : Nat)) = .slice A9 m9 c9 ∧ m9 = (EL p k j k qo).length:=by
       rcases (B7.out.en.own k qo hlt).2 with ⟨h1,h2⟩ | ⟨g',cap,cur,h1,_⟩
       · exact ⟨_,_,_,h1,h2.symm⟩
       · exact ⟨_,_,_,h1,rfl⟩
     have hnlb : nl ≤ 1000000:=by
       rw [hnl]
       rcases EL_len p k j k qo with h1 | h1
       · rw [HLEN.out] at h1;omega
       · omega
     have OWN : Hid (V7.ownsRow V3.heap.size 3 1 (.slice Al nl cl) nl ((ofNats (EL p k j k qo)).map (Value.int .i64))):=Lib.hid (by have h9:=B7.out.en.own k qo hlt;rw [hpl,← hnl] at h9;exact h9)
     have HGET : Hid (∀ w9,Kept [] V7 w9 → Calls Tryz.prog 82 #[.agg #[.slice (some ⟨g23,0,none⟩) n2 n2],.int .i64 k,.int .i64 (qo : Nat)] w9 fun e w' => e = .returned (.slice Al nl cl) ∧ Below w9.heap.size w9 w'):=Lib.hid (fun w9 hk9 => by
       have h9:=getl_any g23 n2 n2 k qo m c ev w9 (B7.out.keep hk9).en.tb hlt (by omega)
       rw [hpl] at h9
       exact h9)
     obtain ⟨X,hX⟩ : ∃ X,X = g23 :: ((m k).toList ++ (Value.slice Al nl cl).ownBlock.toList):=⟨_,rfl⟩
     have hXO : ∀ x ∈ (m k).toList ++ (Value.slice Al nl cl).ownBlock.toList,OW n1 n2 v3 m ev x:=fun x hx => by
       rcases List.mem_append.1 hx with h1 | h1
       · exact .inr (.inr ⟨k,hlt,by simpa using h1⟩)
       · exact .inr (.inl ⟨k,qo,hlt,by rw [hpl];simpa using h1⟩)
     have xg : g ∉ X:=fun hm => by
       rw [hX] at hm
       rcases List.mem_cons.1 hm with h1 | h1
       · exact hg23 h1
       · have:=(B7.out.owlt (hXO g h1)).1;omega
     have xq : gq ∉ X:=fun hm => by
       rw [hX] at hm
       rcases List.mem_cons.1 hm with h1 | h1
       · have:=h23V;have:=BJ.out.lim;omega
       · exact hOWq gq (hXO gq h1) rfl
     have hXo : ∀ y ∈ (Value.slice Al nl cl).ownBlock.toList,y ∈ X:=fun y hy => by rw [hX];exact List.mem_cons_of_mem _ (List.mem_append.2 (.inr hy))
     have hXp : ∀ y ∈ g23 :: (m k).toList,y ∈ X:=fun y hy => by
       rw [hX]
       rcases List.mem_cons.1 hy with h1 | h1
       · exact List.mem_cons.2 (.inl h1)
       · exact List.mem_cons_of_mem _ (List.mem_append.2 (.inl h1))
     have HXo:=Lib.hid hXo
     have HXp:=Lib.hid hXp
     have HPL:=Lib.hid hpl
     have HNL:=Lib.hid hnl
     have hbase : V3.heap.size ≤ V7.heap.size:=B7.out.lim
     have HAP : Hid ((ofNats (EL p k j k qo)).map (Value.int .i64) ++ [.int .i64 (j : Nat)] = (ofNats (EL p k j k qo ++ [j])).map (Value.int .i64)):=Lib.hid (by simp [ofNats])
     have hcn : c k < maxLen:=by
       have h1:=B7.out.en.cb k hlt
       have h2 : EC p k j k ≤ 8192:=by
         unfold EC
         split
         · rw [if_neg (by omega),if_pos rfl];omega
         · omega
       unfold maxLen
       omega
     have HPUT : Hid (∀ A6 c6 w6,Kept (Value.slice Al nl cl).ownBlock.toList V7 w6 → Calls Tryz.prog 133 #[.agg #[.slice (some ⟨g23,0,none⟩) n2 n2],.int .i64 k,.int .i64 (qo : Nat),.slice A6 (nl + 1) c6] w6 (PutT Tryz.prog 3 233 (.slice none 0 0) w6 g23 n2 m c ev k (.int .i64 (qo : Nat)) (.slice A6 (nl + 1) c6))):=Lib.hid (fun A6 c6 w6 hk6 => putl_any g23 n2 n2 k qo m c ev A6 (nl + 1) c6 w6 (B7.out.en.tb1 (b:=qo) hlt (by rw [HPL.out];exact hk6)) hlt (by omega) hcn)
     clear hX hpl hnl hXo hXp hXO hOWq
     clear hn4 hN2 hE2 HMN HF HND HSD HO l1 l2 l3 l4 m1 m2 m3 m4 o1 o4 q1 q3 q4 HMI HMR HMS HMX HME HMP hB G0 L0 hgW hWg LV hb1 LV1 hTg hk3 hTg3 hgw1 hkW3 O2 O4 O6 O8 O10 O12 O14 O16 O18 O23 O25 O27 HTG HR1 HQ1 hb0W hg2W hg2g hg2b hkw3 L03 LXr L0r hg3 hg23 hgn HXW hb0n h23V HG2R HR23 LXr' hk LXq L0q hl2 hke hl23 hb2n hl2q hkf hl3 hea1 heb1 HEA HEB HEC hea1' heb1' HOW1 hy3 HLE0 HL1 HLE1 HLL1 LX1 Ly1 hgX1 hyX1 h2X1 hr31 hrX1 hm9b1 HV91 HM91 HKA1 hkZ1 HOW2 LX2 Ly2 hgX2 hyX2 h2X2 HL2 HLE2 HLL2 hr32 hrX2 hm9b2 HV92 HM92 HKA2 hkZ2 HOW3 LX3 Ly3 hgX3 hyX3 h2X3 hst1 hst1' HSTE HL3 HLL3 hr33 hrX3 hm9b3 HV93 HM93 HKA3 hkZ3 LX4 Ly4 hgX4 hyX4 h2X4 h3w hb3n hl3Z L0Z hk3f HLE LXj HLJ hl50 hl5 hqiF hqoF hqo9 hkV7 hgqz q2 HPC HFC B0 HBG HBV HBX B03 HED2 BD1 HO81 HAT1 BD2 HB1 HB2 HO82 HAT2 BD3 HB3 hHeld HO83 HAT3 HB4 BJ Bgq
     refine wp_region_E 18 (fun w' => SXu X g gq V7 w') (by kernel_rfl) (by (first | (with_reducible assumption) | (exact SXu.of (keptNil (by first | (with_reducible exact (Kept.refl _ _).drew) | (with_reducible exact ((Kept.refl _ _).alloc _).drew) | (with_reducible exact ((Kept.refl _ _).drew).alloc _) | (with_reducible exact hk5.alloc _))) LX7 LQ xg xq))) (fun hHeld => ?_)
     refine WE_tk 0 ?_
     refine WE_tk 1 ?_
     refine WE_tk 2 ?_
     refine WE_tk 3 ?_
     refine WE_tk 4 ?_
     refine WE_tk 5 ?_
     refine WE_tk 6 ?_
     refine WE_tk 7 ?_
     refine WE_tk 8 ?_
     refine WE_tk 9 ?_
     refine WE_tk 10 ?_
     refine WE_tk 11 ?_
     refine WE_tk 12 ?_
     refine WE_tk 13 ?_
     refine WE_tk 15 ?_
     refine WE_two 14 16 rfl rfl (by kernel_rfl) (fun K hK => ?_) (fun K hK => ?_)
     · go_simp
       (first | (go_at_call 82;refine (HGET.out _ (by first | (with_reducible exact (Kept.refl _ _).drew) | (with_reducible exact ((Kept.refl _ _).alloc _).drew) | (with_reducible exact ((Kept.refl _ _).drew).alloc _))).mono ?_;rintro e w5 ⟨rfl,hb5⟩;have hk5 : Kept [] V7 w5:=Kept.call (by first | (with_reducible exact (Kept.refl _ _).drew) | (with_reducible exact ((Kept.refl _ _).alloc _).drew) | (with_reducible exact ((Kept.refl _ _).drew).alloc _)) hb5;have hs5 : SXu X g gq V7 w5:=SXu.of (keptNil hk5) LX7 LQ xg xq) | (go_at_call 133;refine (HPUT.out _ _ _ HKV.out).mono ?_;intro e w7 hput;have hput2:=hput;obtain ⟨m7,-,-,hk7,-,-⟩:=hput2;have hs7 : SXu X g gq V7 w7:=SXu.of ((keptWide HKV.out HXo.out).next hk7 (fun y hy => Or.inl (HXp.out y hy))) LX7 LQ xg xq;obtain ⟨m',c',ev',rfl,hB7,-,-⟩:=B7.out.ent hlt (by rw [List.length_append,← HNL.out];rfl) (by rw [HPL.out];exact HKV.out) HO6.out (by rw [HPL.out];exact HA6.out) hput;clear hput))
       (try go_wp2_with fail)
       refine hK.out _ _ ?_ (fun hHeld => ?_)
       · (first | (with_reducible assumption) | (exact SXu.of (keptNil (by first | (with_reducible exact (Kept.refl _ _).drew) | (with_reducible exact ((Kept.refl _ _).alloc _).drew) | (with_reducible exact ((Kept.refl _ _).drew).alloc _) | (with_reducible exact hk5.alloc _))) LX7 LQ xg xq))
       clear hK K
       refine WE_put ?_
       refine WE_step 16 rfl (by kernel_rfl) (fun K hK => ?_)
       go_simp
       refine hK.out _ _ ?_ (fun hHeld => ?_)
       · (first | (with_reducible assumption) | (exact SXu.of (keptNil (by first | (with_reducible exact (Kept.refl _ _).drew) | (with_reducible exact ((Kept.refl _ _).alloc _).drew) | (with_reducible exact ((Kept.refl _ _).drew).alloc _) | (with_reducible exact hk5.alloc _))) LX7 LQ xg xq))
       clear hK K
       refine WE_put ?_
       refine WE_step 17 rfl (by kernel_rfl) (fun K hK => ?_)
       (refine step_append_far _ rfl (.tmp 180) (.tmp 182) 30 rfl V3.heap.size 3 i1 (.int .i64 0) 1 8 Tryz.underlying30 j1 j2 j3 j4 rfl (by decide) (.slice Al nl cl) nl _ rfl (own_kept2 (X:=[]) OWN.out (by first | (with_reducible exact hk5.alloc _) | (with_reducible exact hk5) | (with_reducible exact (hk5.alloc _).drew) | (with_reducible exact hk5.drew)) (by simp)) _ 1 1 [.int .i64 (j : Nat)] rfl (by (repeat' first | (with_reducible refine Rd.drew ?_) | (with_reducible refine Rd.later ?_ hb5) | ((with_reducible refine Rd.new1 _ _ _ _ ?_);simp;done) | (with_reducible refine Rd.alloc ?_ _))) (by intro u hu;simp at hu;subst hu;rfl) (nl + 1) rfl _ HAP.out (by unfold maxLen;omega) (by omega) (by have:=hk5.size;first | omega | (simp;omega)) ?_;intro A6 c6 w6 hown6 hk6 hat6;have hkc:=keptAt hk6 (V:=V7) (by first | (with_reducible exact hk5.alloc _) | (with_reducible exact hk5) | (with_reducible exact (hk5.alloc _).drew) | (with_reducible exact hk5.drew));have hk6V : Kept (Value.slice Al nl cl).ownBlock.toList V7 w6:=(keptNil hkc).next hk6 (fun y hy => Or.inl hy);have hs6 : SXu X g gq V7 w6:=SXu.of (keptWide hk6V HXo.out) LX7 LQ xg xq;have HO6:=Lib.hid hown6;have hszc:=hkc.size;have HA6 : Hid (∀ x,(Value.slice A6 (nl + 1) c6).ownBlock = some x → (Value.slice Al nl cl).ownBlock = some x ∨ V7.heap.size ≤ x):=Lib.hid (fun x hx => (hat6 x hx).imp id (fun h9 => by have h10:=h9.1;omega));have HKV:=Lib.hid hk6V;clear hown6 hk6 hat6 hkc hk6V hszc)
       refine hK.out _ _ ?_ (fun hHeld => ?_)
       · (first | (with_reducible assumption) | (exact SXu.of (keptNil (by first | (with_reducible exact (Kept.refl _ _).drew) | (with_reducible exact ((Kept.refl _ _).alloc _).drew) | (with_reducible exact ((Kept.refl _ _).drew).alloc _) | (with_reducible exact hk5.alloc _))) LX7 LQ xg xq))
       clear hK K
       refine WE_put ?_
       refine WE_last rfl (by kernel_rfl) (fun K hK => ?_)
       go_simp
       (first | (go_at_call 82;refine (HGET.out _ (by first | (with_reducible exact (Kept.refl _ _).drew) | (with_reducible exact ((Kept.refl _ _).alloc _).drew) | (with_reducible exact ((Kept.refl _ _).drew).alloc _))).mono ?_;rintro e w5 ⟨rfl,hb5⟩;have hk5 : Kept [] V7 w5:=Kept.call (by first | (with_reducible exact (Kept.refl _ _).drew) | (with_reducible exact ((Kept.refl _ _).alloc _).drew) | (with_reducible exact ((Kept.refl _ _).drew).alloc _)) hb5;have hs5 : SXu X g gq V7 w5:=SXu.of (keptNil hk5) LX7 LQ xg xq) | (go_at_call 133;refine (HPUT.out _ _ _ HKV.out).mono ?_;intro e w7 hput;have hput2:=hput;obtain ⟨m7,-,-,hk7,-,-⟩:=hput2;have hs7 : SXu X g gq V7 w7:=SXu.of ((keptWide HKV.out HXo.out).next hk7 (fun y hy => Or.inl (HXp.out y hy))) LX7 LQ xg xq;obtain ⟨m',c',ev',rfl,hB7,-,-⟩:=B7.out.ent hlt (by rw [List.length_append,← HNL.out];rfl) (by rw [HPL.out];exact HKV.out) HO6.out (by rw [HPL.out];exact HA6.out) hput;clear hput))
       (try go_wp2_with fail)
       refine hK.out _ _ ?_
       clear hK K
       (have BC : Hid (Bd p V3 w7 [g2,g4,g6,g8,g10,g12,g23] g2 (rsel5 g4 g6 g8 g10 g12) g23 n1 n2 L3 (SE p 0) (EL p k (j + 1)) (EC p k (j + 1)) v3 m' c' ev'):=Lib.hid (by rw [EL_pair HEK.out HQO.out,show EC p k (j + 1) = fun i => if i = k then EC p k j i + 1 else EC p k j i from funext (EC_pair HEK.out)];exact hB7);clear CX7 FX7 CQ FQ xg xq hbase hnlb hcn;(try go_wp2_with fail);exact ⟨⟨j + 1,m',c',ev',by rw [HLEN.out];omega,by go_num,BC⟩,by simp [intOf];rw [HLEN.out];omega⟩)
     · go_simp
       refine hK.out _ _ ?_ (fun hHeld => ?_)
       · (first | (with_reducible assumption) | (exact SXu.of (keptNil (by first | (with_reducible exact (Kept.refl _ _).drew) | (with_reducible exact ((Kept.refl _ _).alloc _).drew) | (with_reducible exact ((Kept.refl _ _).drew).alloc _) | (with_reducible exact hk5.alloc _))) LX7 LQ xg xq))
       clear hK K
       refine WE_put ?_
       refine WE_step 14 rfl (by kernel_rfl) (fun K hK => ?_)
       go_simp
       (first | (go_at_call 82;refine (HGET.out _ (by first | (with_reducible exact (Kept.refl _ _).drew) | (with_reducible exact ((Kept.refl _ _).alloc _).drew) | (with_reducible exact ((Kept.refl _ _).drew).alloc _))).mono ?_;rintro e w5 ⟨rfl,hb5⟩;have hk5 : Kept [] V7 w5:=Kept.call (by first | (with_reducible exact (Kept.refl _ _).drew) | (with_reducible exact ((Kept.refl _ _).alloc _).drew) | (with_reducible exact ((Kept.refl _ _).drew).alloc _)) hb5;have hs5 : SXu X g gq V7 w5:=SXu.of (keptNil hk5) LX7 LQ xg xq) | (go_at_call 133;refine (HPUT.out _ _ _ HKV.out).mono ?_;intro e w7 hput;have hput2:=hput;obtain ⟨m7,-,-,hk7,-,-⟩:=hput2;have hs7 : SXu X g gq V7 w7:=SXu.of ((keptWide HKV.out HXo.out).next hk7 (fun y hy => Or.inl (HXp.out y hy))) LX7 LQ xg xq;obtain ⟨m',c',ev',rfl,hB7,-,-⟩:=B7.out.ent hlt (by rw [List.length_append,← HNL.out];rfl) (by rw [HPL.out];exact HKV.out) HO6.out (by rw [HPL.out];exact HA6.out) hput;clear hput))
       (try go_wp2_with fail)
       refine hK.out _ _ ?_ (fun hHeld => ?_)
       · (first | (with_reducible assumption) | (exact SXu.of (keptNil (by first | (with_reducible exact (Kept.refl _ _).drew) | (with_reducible exact ((Kept.refl _ _).alloc _).drew) | (with_reducible exact ((Kept.refl _ _).drew).alloc _) | (with_reducible exact hk5.alloc _))) LX7 LQ xg xq))
       clear hK K
       refine WE_put ?_
       refine WE_step 17 rfl (by kernel_rfl) (fun K hK => ?_)
       (refine step_append_far _ rfl (.tmp 180) (.tmp 182) 30 rfl V3.heap.size 3 i1 (.int .i64 0) 1 8 Tryz.underlying30 j1 j2 j3 j4 rfl (by decide) (.slice Al nl cl) nl _ rfl (own_kept2 (X:=[]) OWN.out (by first | (with_reducible exact hk5.alloc _) | (with_reducible exact hk5) | (with_reducible exact (hk5.alloc _).drew) | (with_reducible exact hk5.drew)) (by simp)) _ 1 1 [.int .i64 (j : Nat)] rfl (by (repeat' first | (with_reducible refine Rd.drew ?_) | (with_reducible refine Rd.later ?_ hb5) | ((with_reducible refine Rd.new1 _ _ _ _ ?_);simp;done) | (with_reducible refine Rd.alloc ?_ _))) (by intro u hu;simp at hu;subst hu;rfl) (nl + 1) rfl _ HAP.out (by unfold maxLen;omega) (by omega) (by have:=hk5.size;first | omega | (simp;omega)) ?_;intro A6 c6 w6 hown6 hk6 hat6;have hkc:=keptAt hk6 (V:=V7) (by first | (with_reducible exact hk5.alloc _) | (with_reducible exact hk5) | (with_reducible exact (hk5.alloc _).drew) | (with_reducible exact hk5.drew));have hk6V : Kept (Value.slice Al nl cl).ownBlock.toList V7 w6:=(keptNil hkc).next hk6 (fun y hy => Or.inl hy);have hs6 : SXu X g gq V7 w6:=SXu.of (keptWide hk6V HXo.out) LX7 LQ xg xq;have HO6:=Lib.hid hown6;have hszc:=hkc.size;have HA6 : Hid (∀ x,(Value.slice A6 (nl + 1) c6).ownBlock = some x → (Value.slice Al nl cl).ownBlock = some x ∨ V7.heap.size ≤ x):=Lib.hid (fun x hx => (hat6 x hx).imp id (fun h9 => by have h10:=h9.1;omega));have HKV:=Lib.hid hk6V;clear hown6 hk6 hat6 hkc hk6V hszc)
       refine hK.out _ _ ?_ (fun hHeld => ?_)
       · (first | (with_reducible assumption) | (exact SXu.of (keptNil (by first | (with_reducible exact (Kept.refl _ _).drew) | (with_reducible exact ((Kept.refl _ _).alloc _).drew) | (with_reducible exact ((Kept.refl _ _).drew).alloc _) | (with_reducible exact hk5.alloc _))) LX7 LQ xg xq))
       clear hK K
       refine WE_put ?_
       refine WE_last rfl (by kernel_rfl) (fun K hK => ?_)
       go_simp
       (first | (go_at_call 82;refine (HGET.out _ (by first | (with_reducible exact (Kept.refl _ _).drew) | (with_reducible exact ((Kept.refl _ _).alloc _).drew) | (with_reducible exact ((Kept.refl _ _).drew).alloc _))).mono ?_;rintro e w5 ⟨rfl,hb5⟩;have hk5 : Kept [] V7 w5:=Kept.call (by first | (with_reducible exact (Kept.refl _ _).drew) | (with_reducible exact ((Kept.refl _ _).alloc _).drew) | (with_reducible exact ((Kept.refl _ _).drew).alloc _)) hb5;have hs5 : SXu X g gq V7 w5:=SXu.of (keptNil hk5) LX7 LQ xg xq) | (go_at_call 133;refine (HPUT.out _ _ _ HKV.out).mono ?_;intro e w7 hput;have hput2:=hput;obtain ⟨m7,-,-,hk7,-,-⟩:=hput2;have hs7 : SXu X g gq V7 w7:=SXu.of ((keptWide HKV.out HXo.out).next hk7 (fun y hy => Or.inl (HXp.out y hy))) LX7 LQ xg xq;obtain ⟨m',c',ev',rfl,hB7,-,-⟩:=B7.out.ent hlt (by rw [List.length_append,← HNL.out];rfl) (by rw [HPL.out];exact HKV.out) HO6.out (by rw [HPL.out];exact HA6.out) hput;clear hput))
       (try go_wp2_with fail)
       refine hK.out _ _ ?_
       clear hK K
       (have BC : Hid (Bd p V3 w7 [g2,g4,g6,g8,g10,g12,g23] g2 (rsel5 g4 g6 g8 g10 g12) g23 n1 n2 L3 (SE p 0) (EL p k (j + 1)) (EC p k (j + 1)) v3 m' c' ev'):=Lib.hid (by rw [EL_pair HEK.out HQO.out,show EC p k (j + 1) = fun i => if i = k then EC p k j i + 1 else EC p k j i from funext (EC_pair HEK.out)];exact hB7);clear CX7 FX7 CQ FQ xg xq hbase hnlb hcn;(try go_wp2_with fail);exact ⟨⟨j + 1,m',c',ev',by rw [HLEN.out];omega,by go_num,BC⟩,by simp [intOf];rw [HLEN.out];omega⟩)
   have k2' : (ek == 2) = false:=by simpa using k2
   have HK2 : Hid ((ge p.es k).k ≠ 2):=by show _ ≠ _;rw [HEK.out];exact k2
   have HEE : Hid (EL p k 0 = EL p (k + 1) 0 ∧ EC p k 0 = EC p (k + 1) 0):=Lib.hid ⟨EL_edge 0 (fun h => absurd h HK2.out),EC_edge 0 (fun h => absurd h HK2.out)⟩
   clear k2 hflk
   by_cases k3 : ek = 3
   · subst k3
     have hc:=HED2.out.2.2.2.2.2.2.1 (by rw [HEK.out];decide) (by rw [HEK.out];decide)
     rw [HEC.out] at hc
     obtain ⟨en,rfl⟩:=Int.eq_ofNat_of_zero_le hc.1
     have hen1 : en < n1:=by have h1:=HND.out.1;have h2:=hc.2;omega
     have hen1' : (en : Int) < (n1 : Int):=by omega
     obtain ⟨L2,hL2⟩ : ∃ L,L = upd2 L1 3 en (L1 3 en ++ [k]):=⟨_,rfl⟩
     have HL2:=Lib.hid hL2
     have HLL2 : Hid (∀ i,NKf L1 (SE p 0) 3 i ≤ 1000002):=Lib.hid (fun i => by show (L1 3 i).length ≤ _;have:=HLE1.out 3 i;omega)
     have HLE : Hid (LE p (k + 1) = L2):=Lib.hid (LE_ret (by rw [HEK.out];decide) HEA.out HEC.out HL1.out HL2.out)
     clear hc hL2
     obtain ⟨A92,m92,c92,hv92,hm92⟩ : ∃ A9 m9 c9,v1 3 en = .slice A9 m9 c9 ∧ m9 = NKf L1 (SE p 0) 3 en:=by
       rcases (BD2.out.rg.own 3 en (by omega) hen1).2 with ⟨h1,h2⟩ | ⟨g',cap,cur,h1,_⟩
       · exact ⟨_,_,_,h1,h2.symm⟩
       · exact ⟨_,_,_,h1,rfl⟩
     have OWN2 : Hid (Z1.ownsRow V3.heap.size 3 1 (.slice A92 m92 c92) m92 (CKf L1 (SE p 0) 3 en)):=Lib.hid (by have h9:=BD2.out.rg.own 3 en (by omega) hen1;rw [hv92,← hm92] at h9;exact h9)
     have rX2 : Z1.cell? ⟨g10,en,none⟩ = some (.slice A92 m92 c92):=by rw [← hv92];exact BD2.out.rg.cell 3 en (by omega) hen1
     have fX2 : Z1.frozen? ⟨g10,en,none⟩ = false:=BD2.out.rg.fr 3 en (by omega)
     have hr32 : g10 < V3.heap.size:=BD2.out.rg.rlt 3 (by omega)
     have hrX2 : g10 < Z1.heap.size:=Nat.lt_of_lt_of_le hr32 BD2.out.lim
     have oX2 : ∀ x,x ∈ (Value.slice A92 m92 c92).ownBlock.toList → V3.heap.size ≤ x ∧ x ≠ y:=fun x hx => by
       have h1 : (v1 3 en).ownBlock = some x:=by rw [hv92];simpa using hx
       have h2 : OW n1 n2 v1 m ev x:=.inl ⟨3,en,by omega,hen1,h1⟩
       exact ⟨(BD2.out.owlt h2).1,HOW2.out x h2⟩
     have xg2 : g ∉ (Value.slice A92 m92 c92).ownBlock.toList:=fun hm => by have:=(oX2 g hm).1;have:=hg3;omega
     have x22 : g2 ∉ (Value.slice A92 m92 c92).ownBlock.toList:=fun hm => by have h1:=(oX2 g2 hm).1;have h2:=BD2.out.gl;omega
     have xy2 : y ∉ (Value.slice A92 m92 c92).ownBlock.toList:=fun hm => (oX2 _ hm).2 rfl
     have xr2 : g10 ∉ (Value.slice A92 m92 c92).ownBlock.toList:=fun hm => by have h1:=(oX2 _ hm).1;omega
     have hm9b2 : m92 ≤ 1000002:=by rw [hm92];exact HLL2.out en
     have hlX2 : V3.heap.size ≤ Z1.heap.size:=BD2.out.lim
     have HV92:=Lib.hid hv92
     have HM92:=Lib.hid hm92
     clear hv92 hm92 oX2
     go_upto_region 27 with fail
     refine wp_region_E 18 (fun w' => SXt (Value.slice A92 m92 c92).ownBlock.toList g y g10 Z1 w') (by kernel_rfl) (by (first | (with_reducible assumption) | exact SXt.of (keptNil (Kept.refl _ _).drew) hgX2 hyX2 hrX2 xg2 xy2 xr2 | exact SXt.of (hHeld.1.alloc _) hgX2 hyX2 hrX2 xg2 xy2 xr2 | exact SXt.of HKA2.out hgX2 hyX2 hrX2 xg2 xy2 xr2)) (fun hHeld => ?_)
     refine WE_tk 0 ?_
     refine WE_tk 1 ?_
     refine WE_tk 2 ?_
     refine WE_tk 3 ?_
     refine WE_tk 4 ?_
     refine WE_tk 5 ?_
     refine WE_tk 6 ?_
     refine WE_tk 7 ?_
     refine WE_tk 8 ?_
     refine WE_tk 9 ?_
     refine WE_tk 10 ?_
     refine WE_tk 11 ?_
     refine WE_tk 12 ?_
     refine WE_tk 13 ?_
     refine WE_tk 14 ?_
     refine WE_step 15 rfl (by kernel_rfl) (fun K hK => ?_)
     go_simp
     refine hK.out _ _ ?_ (fun hHeld => ?_)
     · (first | (with_reducible assumption) | exact SXt.of (keptNil (Kept.refl _ _).drew) hgX2 hyX2 hrX2 xg2 xy2 xr2 | exact SXt.of (hHeld.1.alloc _) hgX2 hyX2 hrX2 xg2 xy2 xr2 | exact SXt.of HKA2.out hgX2 hyX2 hrX2 xg2 xy2 xr2)
     clear hK K
     refine WE_put ?_
     refine WE_step 16 rfl (by kernel_rfl) (fun K hK => ?_)
     (refine step_append_rd _ rfl _ _ 30 rfl V3.heap.size 3 i1 (.int .i64 0) 1 8 Tryz.underlying30 j1 j2 j3 j4 rfl (by decide) (.slice A92 m92 c92) m92 _ rfl (own_kept2 (X:=[]) OWN2.out (((Kept.refl [] Z1).drew).alloc _) (by simp)) (some ⟨Z1.heap.size,0,none⟩) 1 1 [.int .i64 (k : Nat)] rfl (Rd.new1 _ _ _ _ rfl) (fun h => by cases h) (by intro u hu;simp at hu;subst hu;rfl) (m92 + 1) rfl _ rfl (by unfold maxLen;omega) (by omega) (by simp;omega) ?_;intro A82 c82 w82 hown8 hk8 hat8;have hkA : Kept (Value.slice A92 m92 c92).ownBlock.toList Z1 w82:=(keptNil (((Kept.refl [] Z1).drew).alloc _)).next hk8 (fun y hy => Or.inl hy);have fX82:=(hkA.frozen _ en hrX2 xr2).trans fX2;have HO82:=Lib.hid hown8;have HKA2:=Lib.hid hkA;have HAT2:=Lib.hid hat8;clear hown8 hk8 hat8 hkA)
     refine hK.out _ _ ?_ (fun hHeld => ?_)
     · (first | (with_reducible assumption) | exact SXt.of (keptNil (Kept.refl _ _).drew) hgX2 hyX2 hrX2 xg2 xy2 xr2 | exact SXt.of (hHeld.1.alloc _) hgX2 hyX2 hrX2 xg2 xy2 xr2 | exact SXt.of HKA2.out hgX2 hyX2 hrX2 xg2 xy2 xr2)
     clear hK K
     refine WE_put ?_
     refine WE_tk 17 ?_
     refine WE_last rfl (by kernel_rfl) (fun K hK => ?_)
     go_simp
     refine hK.out _ _ ?_
     clear hK K
     have hga2 : ∀ x,(Value.slice A82 (m92 + 1) c82).ownBlock = some x → (v1 3 en).ownBlock = some x ∨ Z1.heap.size ≤ x:=fun x hx => by rw [HV92.out];rcases HAT2.out x hx with h1 | h1;(· exact .inl h1);(· right;rw [h1];simp)
     have hrow2:=BD2.out.row (t:=3) (i:=en) (n':=m92 + 1) (v':=.slice A82 (m92 + 1) c82) (l':=CKf L1 (SE p 0) 3 en ++ [.int .i64 (k : Nat)]) (L':=L2) (S':=(SE p 0)) (by omega) hen1 (by rw [HV92.out];exact HKA2.out) HO82.out hga2 (by rw [HM92.out];exact (by rw [HL2.out];exact NK_up (by omega))) (by rw [HL2.out];exact CK_up (by omega))
     refine act_named (fun Z => Bd p V3 Z [g2,g4,g6,g8,g10,g12,g23] g2 (rsel5 g4 g6 g8 g10 g12) g23 n1 n2 L2 (SE p 0) (EL p k 0) (EC p k 0) (upd2 v1 3 en (.slice A82 (m92 + 1) c82)) m c ev ∧ Kept (g10 :: (Value.slice A92 m92 c92).ownBlock.toList) Z1 Z) ⟨hrow2.1,by have h9:=hrow2.2.1;rw [HV92.out] at h9;exact h9⟩ ?_
     rintro Z2 ⟨hBZ2,hkZ2⟩
     have hOW2 : ∀ x,OW n1 n2 (upd2 v1 3 en (.slice A82 (m92 + 1) c82)) m ev x → x ≠ y:=fun x hx => by
       rcases hrow2.2.2 x hx with h1 | h1
       · exact HOW2.out x h1
       · have:=hyX2;omega
     obtain ⟨v2,hv2⟩ : ∃ z,z = upd2 v1 3 en (.slice A82 (m92 + 1) c82):=⟨_,rfl⟩
     rw [← hv2] at hBZ2 hOW2
     have BD3:=Lib.hid hBZ2
     have HOW3:=Lib.hid hOW2
     have hyn2 : y ∉ g10 :: (Value.slice A92 m92 c92).ownBlock.toList:=fun hm => by
       rcases List.mem_cons.1 hm with h1 | h1
       · have h2:=hy3;omega
       · exact xy2 h1
     have HB3:=Lib.hid (hkZ2.blk hyn2 HB2.out)
     clear hBZ2 hOW2 hv2 hrow2 hga2 hyn2 rX2 fX2 fX82 xg2 x22 xy2 xr2 OWN2 hlX2 hHeld
     have BE : Hid (Bd p V3 Z2 [g2,g4,g6,g8,g10,g12,g23] g2 (rsel5 g4 g6 g8 g10 g12) g23 n1 n2 (LE p (k + 1)) (SE p 0) (EL p (k + 1) 0) (EC p (k + 1) 0) v2 m c ev):=Lib.hid (by rw [HLE.out,← HEE.out.1,← HEE.out.2];exact BD3.out)
     clear CX2 FX2 Cy2 Fy2
     go_wp2_with fail
     exact ⟨⟨k + 1,v2,m,c,ev,by omega,by go_num,BE⟩,by simp [intOf];omega⟩
   by_cases k4 : ek = 4
   · subst k4
     have hc:=HED2.out.2.2.2.2.2.2.1 (by rw [HEK.out];decide) (by rw [HEK.out];decide)
     rw [HEC.out] at hc
     obtain ⟨en,rfl⟩:=Int.eq_ofNat_of_zero_le hc.1
     have hen1 : en < n1:=by have h1:=HND.out.1;have h2:=hc.2;omega
     have hen1' : (en : Int) < (n1 : Int):=by omega
     obtain ⟨L2,hL2⟩ : ∃ L,L = upd2 L1 3 en (L1 3 en ++ [k]):=⟨_,rfl⟩
     have HL2:=Lib.hid hL2
     have HLL2 : Hid (∀ i,NKf L1 (SE p 0) 3 i ≤ 1000002):=Lib.hid (fun i => by show (L1 3 i).length ≤ _;have:=HLE1.out 3 i;omega)
     have HLE : Hid (LE p (k + 1) = L2):=Lib.hid (LE_ret (by rw [HEK.out];decide) HEA.out HEC.out HL1.out HL2.out)
     clear hc hL2 k3
     obtain ⟨A92,m92,c92,hv92,hm92⟩ : ∃ A9 m9 c9,v1 3 en = .slice A9 m9 c9 ∧ m9 = NKf L1 (SE p 0) 3 en:=by
       rcases (BD2.out.rg.own 3 en (by omega) hen1).2 with ⟨h1,h2⟩ | ⟨g',cap,cur,h1,_⟩
       · exact ⟨_,_,_,h1,h2.symm⟩
       · exact ⟨_,_,_,h1,rfl⟩
     have OWN2 : Hid (Z1.ownsRow V3.heap.size 3 1 (.slice A92 m92 c92) m92 (CKf L1 (SE p 0) 3 en)):=Lib.hid (by have h9:=BD2.out.rg.own 3 en (by omega) hen1;rw [hv92,← hm92] at h9;exact h9)
     have rX2 : Z1.cell? ⟨g10,en,none⟩ = some (.slice A92 m92 c92):=by rw [← hv92];exact BD2.out.rg.cell 3 en (by omega) hen1
     have fX2 : Z1.frozen? ⟨g10,en,none⟩ = false:=BD2.out.rg.fr 3 en (by omega)
     have hr32 : g10 < V3.heap.size:=BD2.out.rg.rlt 3 (by omega)
     have hrX2 : g10 < Z1.heap.size:=Nat.lt_of_lt_of_le hr32 BD2.out.lim
     have oX2 : ∀ x,x ∈ (Value.slice A92 m92 c92).ownBlock.toList → V3.heap.size ≤ x ∧ x ≠ y:=fun x hx => by
       have h1 : (v1 3 en).ownBlock = some x:=by rw [hv92];simpa using hx
       have h2 : OW n1 n2 v1 m ev x:=.inl ⟨3,en,by omega,hen1,h1⟩
       exact ⟨(BD2.out.owlt h2).1,HOW2.out x h2⟩
     have xg2 : g ∉ (Value.slice A92 m92 c92).ownBlock.toList:=fun hm => by have:=(oX2 g hm).1;have:=hg3;omega
     have x22 : g2 ∉ (Value.slice A92 m92 c92).ownBlock.toList:=fun hm => by have h1:=(oX2 g2 hm).1;have h2:=BD2.out.gl;omega
     have xy2 : y ∉ (Value.slice A92 m92 c92).ownBlock.toList:=fun hm => (oX2 _ hm).2 rfl
     have xr2 : g10 ∉ (Value.slice A92 m92 c92).ownBlock.toList:=fun hm => by have h1:=(oX2 _ hm).1;omega
     have hm9b2 : m92 ≤ 1000002:=by rw [hm92];exact HLL2.out en
     have hlX2 : V3.heap.size ≤ Z1.heap.size:=BD2.out.lim
     have HV92:=Lib.hid hv92
     have HM92:=Lib.hid hm92
     clear hv92 hm92 oX2
     go_upto_region 27 with fail
     refine wp_region_E 18 (fun w' => SXt (Value.slice A92 m92 c92).ownBlock.toList g y g10 Z1 w') (by kernel_rfl) (by (first | (with_reducible assumption) | exact SXt.of (keptNil (Kept.refl _ _).drew) hgX2 hyX2 hrX2 xg2 xy2 xr2 | exact SXt.of (hHeld.1.alloc _) hgX2 hyX2 hrX2 xg2 xy2 xr2 | exact SXt.of HKA2.out hgX2 hyX2 hrX2 xg2 xy2 xr2)) (fun hHeld => ?_)
     refine WE_tk 0 ?_
     refine WE_tk 1 ?_
     refine WE_tk 2 ?_
     refine WE_tk 3 ?_
     refine WE_tk 4 ?_
     refine WE_tk 5 ?_
     refine WE_tk 6 ?_
     refine WE_tk 7 ?_
     refine WE_tk 8 ?_
     refine WE_tk 9 ?_
     refine WE_tk 10 ?_
     refine WE_tk 11 ?_
     refine WE_tk 12 ?_
     refine WE_tk 13 ?_
     refine WE_tk 14 ?_
     refine WE_step 15 rfl (by kernel_rfl) (fun K hK => ?_)
     go_simp
     refine hK.out _ _ ?_ (fun hHeld => ?_)
     · (first | (with_reducible assumption) | exact SXt.of (keptNil (Kept.refl _ _).drew) hgX2 hyX2 hrX2 xg2 xy2 xr2 | exact SXt.of (hHeld.1.alloc _) hgX2 hyX2 hrX2 xg2 xy2 xr2 | exact SXt.of HKA2.out hgX2 hyX2 hrX2 xg2 xy2 xr2)
     clear hK K
     refine WE_put ?_
     refine WE_step 16 rfl (by kernel_rfl) (fun K hK => ?_)
     (refine step_append_rd _ rfl _ _ 30 rfl V3.heap.size 3 i1 (.int .i64 0) 1 8 Tryz.underlying30 j1 j2 j3 j4 rfl (by decide) (.slice A92 m92 c92) m92 _ rfl (own_kept2 (X:=[]) OWN2.out (((Kept.refl [] Z1).drew).alloc _) (by simp)) (some ⟨Z1.heap.size,0,none⟩) 1 1 [.int .i64 (k : Nat)] rfl (Rd.new1 _ _ _ _ rfl) (fun h => by cases h) (by intro u hu;simp at hu;subst hu;rfl) (m92 + 1) rfl _ rfl (by unfold maxLen;omega) (by omega) (by simp;omega) ?_;intro A82 c82 w82 hown8 hk8 hat8;have hkA : Kept (Value.slice A92 m92 c92).ownBlock.toList Z1 w82:=(keptNil (((Kept.refl [] Z1).drew).alloc _)).next hk8 (fun y hy => Or.inl hy);have fX82:=(hkA.frozen _ en hrX2 xr2).trans fX2;have HO82:=Lib.hid hown8;have HKA2:=Lib.hid hkA;have HAT2:=Lib.hid hat8;clear hown8 hk8 hat8 hkA)
     refine hK.out _ _ ?_ (fun hHeld => ?_)
     · (first | (with_reducible assumption) | exact SXt.of (keptNil (Kept.refl _ _).drew) hgX2 hyX2 hrX2 xg2 xy2 xr2 | exact SXt.of (hHeld.1.alloc _) hgX2 hyX2 hrX2 xg2 xy2 xr2 | exact SXt.of HKA2.out hgX2 hyX2 hrX2 xg2 xy2 xr2)
     clear hK K
     refine WE_put ?_
     refine WE_tk 17 ?_
     refine WE_last rfl (by kernel_rfl) (fun K hK => ?_)
     go_simp
     refine hK.out _ _ ?_
     clear hK K
     have hga2 : ∀ x,(Value.slice A82 (m92 + 1) c82).ownBlock = some x → (v1 3 en).ownBlock = some x ∨ Z1.heap.size ≤ x:=fun x hx => by rw [HV92.out];rcases HAT2.out x hx with h1 | h1;(· exact .inl h1);(· right;rw [h1];simp)
     have hrow2:=BD2.out.row (t:=3) (i:=en) (n':=m92 + 1) (v':=.slice A82 (m92 + 1) c82) (l':=CKf L1 (SE p 0) 3 en ++ [.int .i64 (k : Nat)]) (L':=L2) (S':=(SE p 0)) (by omega) hen1 (by rw [HV92.out];exact HKA2.out) HO82.out hga2 (by rw [HM92.out];exact (by rw [HL2.out];exact NK_up (by omega))) (by rw [HL2.out];exact CK_up (by omega))
     refine act_named (fun Z => Bd p V3 Z [g2,g4,g6,g8,g10,g12,g23] g2 (rsel5 g4 g6 g8 g10 g12) g23 n1 n2 L2 (SE p 0) (EL p k 0) (EC p k 0) (upd2 v1 3 en (.slice A82 (m92 + 1) c82)) m c ev ∧ Kept (g10 :: (Value.slice A92 m92 c92).ownBlock.toList) Z1 Z) ⟨hrow2.1,by have h9:=hrow2.2.1;rw [HV92.out] at h9;exact h9⟩ ?_
     rintro Z2 ⟨hBZ2,hkZ2⟩
     have hOW2 : ∀ x,OW n1 n2 (upd2 v1 3 en (.slice A82 (m92 + 1) c82)) m ev x → x ≠ y:=fun x hx => by
       rcases hrow2.2.2 x hx with h1 | h1
       · exact HOW2.out x h1
       · have:=hyX2;omega
     obtain ⟨v2,hv2⟩ : ∃ z,z = upd2 v1 3 en (.slice A82 (m92 + 1) c82):=⟨_,rfl⟩
     rw [← hv2] at hBZ2 hOW2
     have BD3:=Lib.hid hBZ2
     have HOW3:=Lib.hid hOW2
     have hyn2 : y ∉ g10 :: (Value.slice A92 m92 c92).ownBlock.toList:=fun hm => by
       rcases List.mem_cons.1 hm with h1 | h1
       · have h2:=hy3;omega
       · exact xy2 h1
     have HB3:=Lib.hid (hkZ2.blk hyn2 HB2.out)
     clear hBZ2 hOW2 hv2 hrow2 hga2 hyn2 rX2 fX2 fX82 xg2 x22 xy2 xr2 OWN2 hlX2 hHeld
     have BE : Hid (Bd p V3 Z2 [g2,g4,g6,g8,g10,g12,g23] g2 (rsel5 g4 g6 g8 g10 g12) g23 n1 n2 (LE p (k + 1)) (SE p 0) (EL p (k + 1) 0) (EC p (k + 1) 0) v2 m c ev):=Lib.hid (by rw [HLE.out,← HEE.out.1,← HEE.out.2];exact BD3.out)
     clear CX2 FX2 Cy2 Fy2
     go_wp2_with fail
     exact ⟨⟨k + 1,v2,m,c,ev,by omega,by go_num,BE⟩,by simp [intOf];omega⟩
   have k3' : (ek == 3) = false:=by simpa using k3
   have k4' : (ek == 4) = false:=by simpa using k4
   have HLE : Hid (LE p (k + 1) = L1):=Lib.hid (LE_else HK2.out (by rw [HEK.out];exact k3) (by rw [HEK.out];exact k4) HEA.out HL1.out)
   have BE : Hid (Bd p V3 Z1 [g2,g4,g6,g8,g10,g12,g23] g2 (rsel5 g4 g6 g8 g10 g12) g23 n1 n2 (LE p (k + 1)) (SE p 0) (EL p (k + 1) 0) (EC p (k + 1) 0) v1 m c ev):=Lib.hid (by rw [HLE.out,← HEE.out.1,← HEE.out.2];exact BD2.out)
   clear k3 k4
   go_wp2_with fail
   exact ⟨⟨k + 1,v1,m,c,ev,by omega,by go_num,BE⟩,by simp [intOf];omega⟩
 obtain rfl : n2 = k:=by omega
 go_wp2_with fail
 go_loopw [211] (fun s211 wz => ∃ (j : Nat) (v : Nat → Nat → Value) (m : Nat → Option Nat) (c : Nat → Nat) (ev : Nat → Value → Value),j ≤ n4 ∧ s211 = .int .i64 j ∧ Hid (Bd p V3 wz [g2,g4,g6,g8,g10,g12,g23] g2 (rsel5 g4 g6 g8 g10 g12) g23 n1 n2 (LE p n2) (SE p j) (EL p n2 0) (EC p n2 0) v m c ev)) (fun s211 _ => n4 - (intOf s211).toNat)
 case atStart => exact ⟨0,v,m,c,ev,Nat.zero_le _,rfl,BQ⟩
 case round =>
 clear BQ CXq FXq C0q F0q L0q hlt hk
 rename World => wz
 obtain ⟨j,v,m,c,ev,hj,rfl,BZ⟩:=hrel
 have ⟨LXq,CXq,FXq⟩:=BZ.out.kept.blk hgn HBX.out
 have ⟨L0q,C0q,F0q⟩:=BZ.out.kept.blk hb0n B03.out
 by_cases hlt : j < n4
 · obtain ⟨b4,o4,rfl,hl4,hc4⟩:=HSD.out.2 (by omega)
   have hje : j < p.sd.length:=by rw [HSD.out.1];exact hlt
   obtain ⟨r1,r2,r3,r4⟩:=hc4 j hlt
   have hl43 : b4 < V3.heap.size:=Nat.lt_of_lt_of_le hl4 hkw3.size
   have hb4n : b4 ∉ [g2,g4,g6,g8,g10,g12,g23]:=fun hm => by have h1:=HXW.out _ hm;have h2:=hB.size;omega
   replace r1:=(BZ.out.kept.cell b4 _ hl43 hb4n).trans ((hkw3.cell b4 _ hl4 (by simp)).trans r1)
   replace r2:=(BZ.out.kept.cell b4 _ hl43 hb4n).trans ((hkw3.cell b4 _ hl4 (by simp)).trans r2)
   replace r3:=(BZ.out.kept.cell b4 _ hl43 hb4n).trans ((hkw3.cell b4 _ hl4 (by simp)).trans r3)
   replace r4:=(BZ.out.kept.cell b4 _ hl43 hb4n).trans ((hkw3.cell b4 _ hl4 (by simp)).trans r4)
   have hl4z : b4 < wz.heap.size:=Nat.lt_of_lt_of_le hl43 BZ.out.lim
   obtain ⟨u,hu⟩ : ∃ u,gs p.sd j = u:=⟨_,rfl⟩
   have hum : u ∈ p.sd:=by rw [← hu];exact gs_mem hje
   have HJU : Hid (p.sd[j]? = some u):=Lib.hid (by rw [← hu,gs_lt hje];exact List.getElem?_eq_getElem hje)
   have hsd:=HO.out.seed hum
   rw [hu] at r1 r2 r3 r4
   obtain ⟨sn,hsn⟩:=Int.eq_ofNat_of_zero_le hsd.1
   obtain ⟨sf,hsf⟩ : ∃ x,u.f = x:=⟨_,rfl⟩
   obtain ⟨sk,hsk⟩ : ∃ x,u.k = x:=⟨_,rfl⟩
   obtain ⟨sv,hsv⟩ : ∃ x,u.v = x:=⟨_,rfl⟩
   rw [hsn] at r1
   rw [hsf] at r2
   rw [hsk] at r3
   rw [hsv] at r4
   have hsnN : sn < n1:=by have h1:=HND.out.1;have h2:=hsd.2.1;omega
   have HSN:=Lib.hid hsn
   have HSF:=Lib.hid hsf
   have HSK:=Lib.hid hsk
   have HSV:=Lib.hid hsv
   have hj1 : (j : Int) < (n4 : Int):=by omega
   have hsn1' : (sn : Int) < (n1 : Int):=by omega
   clear hc4 hsd hsn hsf hsk hsv hu hum
   go_upto_region 32 with fail
   refine wp_named (fun X => ∃ y,wz.heap.size = y ∧ Blk X y [.int .i64 sn,.int .i64 sf,.int .i64 sk,.int .i64 sv] ∧ Kept [] wz X) ⟨_,rfl,Blk.new _ _ _ _ rfl,(Kept.refl _ _).alloc _⟩ ?_
   rintro X1 ⟨y,ey,By,hkX⟩
   rw [ey]
   have HB1:=Lib.hid By
   have BD1:=Lib.hid (BZ.out.keep hkX)
   have HOW1 : Hid (∀ x,OW n1 n2 v m ev x → x ≠ y):=Lib.hid (fun x hx => by have:=(BZ.out.owlt hx).2;omega)
   have hy3 : V3.heap.size ≤ y:=by have:=BZ.out.lim;omega
   have HLL1 : Hid (∀ i,NKf (LE p n2) (SE p j) 4 i ≤ 1000002):=Lib.hid (fun i => by show (SE p j i).length ≤ _;have:=SE_len p j i;omega)
   clear By hkX BZ r1 r2 r3 r4 CXq FXq C0q F0q ey
   have ⟨LX1,CX1,FX1⟩:=BD1.out.kept.blk hgn HBX.out
   have ⟨Ly1,Cy1,Fy1⟩:=HB1.out
   have hgX1 : g < X1.heap.size:=LX1
   have hyX1 : y < X1.heap.size:=Ly1
   have h2X1 : g2 < X1.heap.size:=BD1.out.st.1
   obtain ⟨A91,m91,c91,hv91,hm91⟩ : ∃ A9 m9 c9,v 4 sn = .slice A9 m9 c9 ∧ m9 = NKf (LE p n2) (SE p j) 4 sn:=by
     rcases (BD1.out.rg.own 4 sn (by omega) hsnN).2 with ⟨h1,h2⟩ | ⟨g',cap,cur,h1,_⟩
     · exact ⟨_,_,_,h1,h2.symm⟩
     · exact ⟨_,_,_,h1,rfl⟩
   have OWN1 : Hid (X1.ownsRow V3.heap.size 80 4 (.slice A91 m91 c91) m91 (CKf (LE p n2) (SE p j) 4 sn)):=Lib.hid (by have h9:=BD1.out.rg.own 4 sn (by omega) hsnN;rw [hv91,← hm91] at h9;exact h9)
   have rX1 : X1.cell? ⟨g12,sn,none⟩ = some (.slice A91 m91 c91):=by rw [← hv91];exact BD1.out.rg.cell 4 sn (by omega) hsnN
   have fX1 : X1.frozen? ⟨g12,sn,none⟩ = false:=BD1.out.rg.fr 4 sn (by omega)
   have hr31 : g12 < V3.heap.size:=BD1.out.rg.rlt 4 (by omega)
   have hrX1 : g12 < X1.heap.size:=Nat.lt_of_lt_of_le hr31 BD1.out.lim
   have oX1 : ∀ x,x ∈ (Value.slice A91 m91 c91).ownBlock.toList → V3.heap.size ≤ x ∧ x ≠ y:=fun x hx => by
     have h1 : (v 4 sn).ownBlock = some x:=by rw [hv91];simpa using hx
     have h2 : OW n1 n2 v m ev x:=.inl ⟨4,sn,by omega,hsnN,h1⟩
     exact ⟨(BD1.out.owlt h2).1,HOW1.out x h2⟩
   have xg1 : g ∉ (Value.slice A91 m91 c91).ownBlock.toList:=fun hm => by have:=(oX1 g hm).1;have:=hg3;omega
   have x21 : g2 ∉ (Value.slice A91 m91 c91).ownBlock.toList:=fun hm => by have h1:=(oX1 g2 hm).1;have h2:=BD1.out.gl;omega
   have xy1 : y ∉ (Value.slice A91 m91 c91).ownBlock.toList:=fun hm => (oX1 _ hm).2 rfl
   have xr1 : g12 ∉ (Value.slice A91 m91 c91).ownBlock.toList:=fun hm => by have h1:=(oX1 _ hm).1;omega
   have hm9b1 : m91 ≤ 1000002:=by rw [hm91];exact HLL1.out sn
   have hlX1 : V3.heap.size ≤ X1.heap.size:=BD1.out.lim
   have HV91:=Lib.hid hv91
   have HM91:=Lib.hid hm91
   clear hv91 hm91 oX1
   go_upto_region 32 with fail
   refine wp_region_E 18 (fun w' => SXt (Value.slice A91 m91 c91).ownBlock.toList g y g12 X1 w') (by kernel_rfl) (by (first | (with_reducible assumption) | exact SXt.of (keptNil (Kept.refl _ _).drew) hgX1 hyX1 hrX1 xg1 xy1 xr1 | exact SXt.of (hHeld.1.alloc _) hgX1 hyX1 hrX1 xg1 xy1 xr1 | exact SXt.of HKA1.out hgX1 hyX1 hrX1 xg1 xy1 xr1)) (fun hHeld => ?_)
   refine WE_tk 0 ?_
   refine WE_tk 1 ?_
   refine WE_tk 2 ?_
   refine WE_tk 3 ?_
   refine WE_tk 4 ?_
   refine WE_tk 5 ?_
   refine WE_tk 6 ?_
   refine WE_tk 7 ?_
   refine WE_tk 8 ?_
   refine WE_tk 9 ?_
   refine WE_tk 10 ?_
   refine WE_tk 11 ?_
   refine WE_tk 12 ?_
   refine WE_tk 13 ?_
   refine WE_tk 14 ?_
   refine WE_step 15 rfl (by kernel_rfl) (fun K hK => ?_)
   go_simp
   refine hK.out _ _ ?_ (fun hHeld => ?_)
   · (first | (with_reducible assumption) | exact SXt.of (keptNil (Kept.refl _ _).drew) hgX1 hyX1 hrX1 xg1 xy1 xr1 | exact SXt.of (hHeld.1.alloc _) hgX1 hyX1 hrX1 xg1 xy1 xr1 | exact SXt.of HKA1.out hgX1 hyX1 hrX1 xg1 xy1 xr1)
   clear hK K
   refine WE_put ?_
   refine WE_step 16 rfl (by kernel_rfl) (fun K hK => ?_)
   (refine step_append_rd _ rfl _ _ 27 rfl V3.heap.size 80 i5 (.agg #[.int .i64 0,.int .i64 0,.int .i64 0,.int .i64 0]) 4 32 Tryz.underlying27 q1 q2 q3 q4 rfl (by decide) (.slice A91 m91 c91) m91 _ rfl (own_kept2 (X:=[]) OWN1.out (((Kept.refl [] X1).drew).alloc _) (by simp)) (some ⟨X1.heap.size,0,none⟩) 1 1 [.int .i64 (sn : Nat),.int .i64 sf,.int .i64 sk,.int .i64 sv] rfl (Rd.new4 _ _ _ _ _ _ _ rfl) (fun h => by cases h) (by intro u hu;simp at hu;rcases hu with hu | hu | hu | hu <;> subst hu <;> rfl) (m91 + 1) rfl _ rfl (by unfold maxLen;omega) (by omega) (by simp;omega) ?_;intro A81 c81 w81 hown8 hk8 hat8;have hkA : Kept (Value.slice A91 m91 c91).ownBlock.toList X1 w81:=(keptNil (((Kept.refl [] X1).drew).alloc _)).next hk8 (fun y hy => Or.inl hy);have fX81:=(hkA.frozen _ sn hrX1 xr1).trans fX1;have HO81:=Lib.hid hown8;have HKA1:=Lib.hid hkA;have HAT1:=Lib.hid hat8;clear hown8 hk8 hat8 hkA)
   refine hK.out _ _ ?_ (fun hHeld => ?_)
   · (first | (with_reducible assumption) | exact SXt.of (keptNil (Kept.refl _ _).drew) hgX1 hyX1 hrX1 xg1 xy1 xr1 | exact SXt.of (hHeld.1.alloc _) hgX1 hyX1 hrX1 xg1 xy1 xr1 | exact SXt.of HKA1.out hgX1 hyX1 hrX1 xg1 xy1 xr1)
   clear hK K
   refine WE_put ?_
   refine WE_tk 17 ?_
   refine WE_last rfl (by kernel_rfl) (fun K hK => ?_)
   go_simp
   refine hK.out _ _ ?_
   clear hK K
   have hga1 : ∀ x,(Value.slice A81 (m91 + 1) c81).ownBlock = some x → (v 4 sn).ownBlock = some x ∨ X1.heap.size ≤ x:=fun x hx => by rw [HV91.out];rcases HAT1.out x hx with h1 | h1;(· exact .inl h1);(· right;rw [h1];simp)
   have hrow1:=BD1.out.row (t:=4) (i:=sn) (n':=m91 + 1) (v':=.slice A81 (m91 + 1) c81) (l':=CKf (LE p n2) (SE p j) 4 sn ++ [.int .i64 (sn : Nat),.int .i64 sf,.int .i64 sk,.int .i64 sv]) (L':=(LE p n2)) (S':=(SE p (j + 1))) (by omega) hsnN (by rw [HV91.out];exact HKA1.out) HO81.out hga1 (by rw [HM91.out];exact (NK_sd (SE_one HJU.out HSN.out))) (by have h9:=CK_sd (L:=LE p n2) (SE_one HJU.out HSN.out);rw [HSN.out,HSF.out,HSK.out,HSV.out] at h9;exact h9)
   refine act_named (fun Z => Bd p V3 Z [g2,g4,g6,g8,g10,g12,g23] g2 (rsel5 g4 g6 g8 g10 g12) g23 n1 n2 (LE p n2) (SE p (j + 1)) (EL p n2 0) (EC p n2 0) (upd2 v 4 sn (.slice A81 (m91 + 1) c81)) m c ev ∧ Kept (g12 :: (Value.slice A91 m91 c91).ownBlock.toList) X1 Z) ⟨hrow1.1,by have h9:=hrow1.2.1;rw [HV91.out] at h9;exact h9⟩ ?_
   rintro Z1 ⟨hBZ1,hkZ1⟩
   have hOW1 : ∀ x,OW n1 n2 (upd2 v 4 sn (.slice A81 (m91 + 1) c81)) m ev x → x ≠ y:=fun x hx => by
     rcases hrow1.2.2 x hx with h1 | h1
     · exact HOW1.out x h1
     · have:=hyX1;omega
   obtain ⟨v1,hv1⟩ : ∃ z,z = upd2 v 4 sn (.slice A81 (m91 + 1) c81):=⟨_,rfl⟩
   rw [← hv1] at hBZ1 hOW1
   have BD2:=Lib.hid hBZ1
   have HOW2:=Lib.hid hOW1
   have hyn1 : y ∉ g12 :: (Value.slice A91 m91 c91).ownBlock.toList:=fun hm => by
     rcases List.mem_cons.1 hm with h1 | h1
     · have h2:=hy3;omega
     · exact xy1 h1
   have HB2:=Lib.hid (hkZ1.blk hyn1 HB1.out)
   clear hBZ1 hOW1 hv1 hrow1 hga1 hyn1 rX1 fX1 fX81 xg1 x21 xy1 xr1 OWN1 hlX1 hHeld
   clear CX1 FX1 Cy1 Fy1
   go_wp2_with fail
   exact ⟨⟨j + 1,v1,m,c,ev,by omega,by go_num,BD2⟩,by simp [intOf];omega⟩
 obtain rfl : n4 = j:=by omega
 clear CXq FXq C0q F0q L0q LXq
 have hkz : Kept [g2,g4,g6,g8,g10,g12,g23] V3 wz:=BZ.out.kept
 have hob : ∀ x,(x = g14 ∨ x = g16 ∨ x = g18 ∨ x = g25 ∨ x = g27) → x ∉ [g2,g4,g6,g8,g10,g12,g23]:=fun x hx hm => by
   simp at hm
   rcases hx with rfl | rfl | rfl | rfl | rfl
   · rcases hm with h | h | h | h | h | h | h
     · exact HPC.out.h14.1.ne HPC.out.h2.1 (by decide) h
     · exact HPC.out.h14.1.ne HPC.out.h4.1 (by decide) h
     · exact HPC.out.h14.1.ne HPC.out.h6.1 (by decide) h
     · exact HPC.out.h14.1.ne HPC.out.h8.1 (by decide) h
     · exact HPC.out.h14.1.ne HPC.out.h10.1 (by decide) h
     · exact HPC.out.h14.1.ne HPC.out.h12.1 (by decide) h
     · exact HPC.out.h14.1.ne HPC.out.h23.1 (by decide) h
   · rcases hm with h | h | h | h | h | h | h
     · exact HPC.out.h16.1.ne HPC.out.h2.1 (by decide) h
     · exact HPC.out.h16.1.ne HPC.out.h4.1 (by decide) h
     · exact HPC.out.h16.1.ne HPC.out.h6.1 (by decide) h
     · exact HPC.out.h16.1.ne HPC.out.h8.1 (by decide) h
     · exact HPC.out.h16.1.ne HPC.out.h10.1 (by decide) h
     · exact HPC.out.h16.1.ne HPC.out.h12.1 (by decide) h
     · exact HPC.out.h16.1.ne HPC.out.h23.1 (by decide) h
   · rcases hm with h | h | h | h | h | h | h
     · exact HPC.out.h18.1.ne HPC.out.h2.1 (by decide) h
     · exact HPC.out.h18.1.ne HPC.out.h4.1 (by decide) h
     · exact HPC.out.h18.1.ne HPC.out.h6.1 (by decide) h
     · exact HPC.out.h18.1.ne HPC.out.h8.1 (by decide) h
     · exact HPC.out.h18.1.ne HPC.out.h10.1 (by decide) h
     · exact HPC.out.h18.1.ne HPC.out.h12.1 (by decide) h
     · exact HPC.out.h18.1.ne HPC.out.h23.1 (by decide) h
   · rcases hm with h | h | h | h | h | h | h
     · exact HPC.out.h25.1.ne HPC.out.h2.1 (by decide) h
     · exact HPC.out.h25.1.ne HPC.out.h4.1 (by decide) h
     · exact HPC.out.h25.1.ne HPC.out.h6.1 (by decide) h
     · exact HPC.out.h25.1.ne HPC.out.h8.1 (by decide) h
     · exact HPC.out.h25.1.ne HPC.out.h10.1 (by decide) h
     · exact HPC.out.h25.1.ne HPC.out.h12.1 (by decide) h
     · exact HPC.out.h25.1.ne HPC.out.h23.1 (by decide) h
   · rcases hm with h | h | h | h | h | h | h
     · exact HPC.out.h27.1.ne HPC.out.h2.1 (by decide) h
     · exact HPC.out.h27.1.ne HPC.out.h4.1 (by decide) h
     · exact HPC.out.h27.1.ne HPC.out.h6.1 (by decide) h
     · exact HPC.out.h27.1.ne HPC.out.h8.1 (by decide) h
     · exact HPC.out.h27.1.ne HPC.out.h10.1 (by decide) h
     · exact HPC.out.h27.1.ne HPC.out.h12.1 (by decide) h
     · exact HPC.out.h27.1.ne HPC.out.h23.1 (by decide) h
 have lt3 : ∀ {x : Nat} {o : Obj},V3.heap[x]? = some o → x < V3.heap.size:=fun h => (Array.getElem?_eq_some_iff.1 h).1
 have o14:=(hkz.block g14 (lt3 O14.out) (hob g14 (by simp))).trans O14.out
 have o16:=(hkz.block g16 (lt3 O16.out) (hob g16 (by simp))).trans O16.out
 have o18:=(hkz.block g18 (lt3 O18.out) (hob g18 (by simp))).trans O18.out
 have o25:=(hkz.block g25 (lt3 O25.out) (hob g25 (by simp))).trans O25.out
 have o27:=(hkz.block g27 (lt3 O27.out) (hob g27 (by simp))).trans O27.out
 have hO : ∀ x,(x = g ∨ x = g14 ∨ x = g16 ∨ x = g18 ∨ x = g25 ∨ x = g27) → x < V3.heap.size ∧ W.heap.size ≤ x:=fun x hx => by
   rcases hx with rfl | rfl | rfl | rfl | rfl | rfl
   · exact ⟨hg3,hWg⟩
   · exact ⟨lt3 O14.out,HPC.out.h14.2⟩
   · exact ⟨lt3 O16.out,HPC.out.h16.2⟩
   · exact ⟨lt3 O18.out,HPC.out.h18.2⟩
   · exact ⟨lt3 O25.out,HPC.out.h25.2⟩
   · exact ⟨lt3 O27.out,HPC.out.h27.2⟩
 have hnX : ∀ x ∈ [g2,g4,g6,g8,g10,g12,g23],¬ (x = g ∨ x = g14 ∨ x = g16 ∨ x = g18 ∨ x = g25 ∨ x = g27):=fun x hx ho => by
   rcases ho with rfl | h
   · exact hgn hx
   · exact hob x h hx
 obtain ⟨O,hOd⟩ : ∃ O : Nat → Prop,O = fun x => x = g ∨ x = g14 ∨ x = g16 ∨ x = g18 ∨ x = g25 ∨ x = g27:=⟨_,rfl⟩
 have hOl : ∀ x,O x → x < V3.heap.size ∧ W.heap.size ≤ x:=fun x hx => hO x (by rw [hOd] at hx;exact hx)
 have hsafe : ∀ x,x ∈ [g2,g4,g6,g8,g10,g12,g23] → x < V3.heap.size → SafeB O wz x:=fun x hx hl => ⟨Nat.lt_of_lt_of_le hl hkz.size,by rw [hOd];exact hnX x hx⟩
 have hfar : ∀ x,V3.heap.size ≤ x → x < wz.heap.size → SafeB O wz x:=fun x h1 h2 => ⟨h2,fun ho => by have:=(hOl x ho).1;omega⟩
 have hrlt : ∀ t,t < 5 → rsel5 g4 g6 g8 g10 g12 t < V3.heap.size:=fun t ht => BZ.out.rg.rlt t ht
 have hrow : ∀ t,t < 4 → RowsC O wz (rsel5 g4 g6 g8 g10 g12 t) n1 (fun i => ofNats (LE p n2 t i)):=fun t ht => by
   refine ⟨hsafe _ (BZ.out.xr t (by omega)) (hrlt t (by omega)),fun i hi => ?_⟩
   have h9:=BZ.out.rg.own t i (by omega) hi
   have e1 : eZ t = 1:=by unfold eZ;rw [if_neg (by omega)]
   have e2 : CKf (LE p n2) (SE p n4) t i = (ofNats (LE p n2 t i)).map (Value.int .i64):=by unfold CKf;rw [if_neg (by omega)]
   rw [e1,e2] at h9
   obtain ⟨A,c,f1,f2,f3⟩:=SIn.of_own h9
   exact ⟨A,_,c,by rw [← f1];exact BZ.out.rg.cell t i (by omega) hi,f2,fun _ a ha => hfar _ (f3 a ha).1 (f3 a ha).2⟩
 have hsd4 : ∀ i,i < n1 → ∃ A m c,wz.cell? ⟨g12,i,none⟩ = some (.slice A m c) ∧ VssO O wz A m (seedV p i):=fun i hi => by
   have h9:=BZ.out.rg.own 4 i (by omega) hi
   have e2 : CKf (LE p n2) (SE p n4) 4 i = vcells (SE p n4 i):=rfl
   have e3 : SE p n4 i = seedV p i:=by unfold SE seedV;rw [← HSD.out.1,List.take_length]
   rw [e2,e3] at h9
   obtain ⟨A,c,f1,f2,f3⟩:=vss_of_own (e:=eT 4) h9
   exact ⟨A,_,c,by rw [← f1];exact BZ.out.rg.cell 4 i (by omega) hi,f2,fun _ a ha => hfar _ (f3 a ha).1 (f3 a ha).2⟩
 have hent : ∀ k c : Nat,k < n2 → (ge p.es k).k = 2 → ∃ A m d,ev k (.int .i64 (c : Nat)) = .slice A m d ∧ SInO O wz A m d (ofNats (entL p k c)):=fun k c hk h2 => by
   have h9:=BZ.out.en.own k c hk
   have e3 : EL p n2 0 k c = entL p k c:=by unfold EL;rw [if_pos h2,if_pos hk]
   rw [e3] at h9
   obtain ⟨A,d,f1,f2,f3⟩:=SIn.of_own (n:=(entL p k c).length) h9
   exact ⟨A,_,d,f1,f2,fun _ a ha => hfar _ (f3 a ha).1 (f3 a ha).2⟩
 have hnn : ∀ {x : Nat},(Value.slice none 0 0).ownBlock = some x → False:=fun h => by cases h
 have hrep : ∀ (n : Nat),n < n1 → MX[n]? = some (Value.map none):=fun n hn => by rw [← HMX.out];exact rep_at hn
 have hMXs : MX.size = n1:=by rw [← HMX.out];simp
 have M0 : ∃ K : Kn,Inp p K w ∧ (∃ G,Mem p K w g O G wz st0) ∧ K.A1 = A1 ∧ K.n1 = n1 ∧ K.c1 = c1 ∧ K.A2 = A2 ∧ K.n2 = n2 ∧ K.c2 = c2 ∧ K.A3 = A3 ∧ K.n3 = n3 ∧ K.c3 = c3 ∧ K.A4 = A4 ∧ K.n4 = n4 ∧ K.c4 = c4:=by
   refine ⟨⟨A1,A2,A3,A4,n1,c1,n2,c2,n3,c3,n4,c4,g2,g4,g6,g8,g10,g12,g23,g27,tsel4 g14 g16 g18 g25,m,c,ev⟩,⟨HND.out,HED.out,HFL.out,HSD.out,HFC.out⟩,⟨⟨fun _ _ => none,fun _ _ => 0,fun _ _ => xv top,fun _ _ _ => .slice none 0 0,fun _ _ => uv topV,fun _ => .slice none 0 0,qA,rA,0,qc,rc⟩,?_⟩,rfl,rfl,rfl,rfl,rfl,rfl,rfl,rfl,rfl,rfl,rfl,rfl⟩
   refine { low:=?_,og:=fun x hx => ⟨Nat.le_trans hB.size (hOl x hx).2,Nat.lt_of_lt_of_le (hOl x hx).1 hkz.size⟩,ob:=by rw [hOd];exact .inl rfl,box:=?_,btag:=HTG.out.same (hkz.block g hg3 hgn),start:=⟨hsafe g2 (by simp) BZ.out.gl,fun i hi => BZ.out.st.2.1 i hi⟩,out:=?_,calls:=?_,leav:=?_,rets:=?_,seeds:=⟨hsafe g12 (by simp) (hrlt 4 (by omega)),hsd4⟩,entr:=BZ.out.en.tb,entO:=⟨hsafe g23 (by simp) h23V,fun k x hk hx => hfar x (BZ.out.en.mge k x hk hx) (BZ.out.en.tb.is k x hk hx).lt⟩,ents:=hent,tj:=⟨⟨MX,o14,hMXs,hrep⟩,fun _ _ _ h => (by cases h),fun _ _ _ _ => rfl,fun _ _ _ _ _ h => (by cases h)⟩,tw:=fun i hi => ?_,tv:=⟨⟨MX,o25,hMXs,hrep⟩,fun _ _ _ h => (by cases h),fun _ _ _ _ => rfl,fun _ _ _ _ _ h => (by cases h)⟩,hj:=fun _ _ _ _ => rfl,hv:=fun _ _ _ => rfl,jno:=fun _ _ _ _ => rfl,hw:=fun _ _ _ _ _ => World.ownsRow_nil _ _ _ _,otr:=fun i hi => ?_,opr:=by rw [hOd];exact .inr (.inr (.inr (.inr (.inr rfl)))),om:=fun _ _ _ _ _ h => (by cases h),ow:=fun _ _ _ _ _ _ h => (hnn h).elim,opv:=fun _ _ _ h => (hnn h).elim,minj:=fun _ _ _ _ _ _ _ _ _ h => (by cases h),winj:=fun _ _ _ _ _ _ _ _ _ _ _ h => (hnn h).elim,trne:=HPC.out.h16.1.ne HPC.out.h18.1 (by decide),prow:=fun n hn => ?_,ptag:=⟨MP,o27⟩,pown:=fun _ _ => World.ownsRow_nil _ _ _ _,dpp:=fun _ _ _ _ _ h => (hnn h).elim,queue:=⟨⟨⟨rfl,fun h => absurd h (Nat.lt_irrefl 0)⟩,HQ1.out.2⟩,fun h => absurd h (Nat.lt_irrefl 0)⟩,rank:=⟨⟨rfl,fun h => absurd h (Nat.lt_irrefl 0)⟩,HR1.out.2⟩,cb:=fun _ _ _ _ => Nat.zero_le _,pb:=fun _ _ => Nat.zero_le _ }
   · have h1 : Below w.heap.size w V3:=hkw3.toBelow
     exact hkz.below h1 h1.size (fun x hx => Nat.le_trans hB.size (HXW.out x hx))
   · have h9:=hkz.blk hgn HBX.out
     unfold sbox
     rw [HMN.out,HF.out]
     exact h9
   · have h9:=hrow 0 (by omega)
     have e : (fun i => ofNats (LE p n2 0 i)) = fun i => ofNats (If.outL (Iv.pf p) i):=by rw [← HED.out.1];rfl
     rw [e] at h9
     exact h9
   · have h9:=hrow 1 (by omega)
     have e : (fun i => ofNats (LE p n2 1 i)) = fun i => ofNats (If.callL (Iv.pf p) i):=by rw [← HED.out.1];rfl
     rw [e] at h9
     exact h9
   · have h9:=hrow 2 (by omega)
     have e : (fun i => ofNats (LE p n2 2 i)) = fun i => ofNats (leavL p i):=by rw [← HED.out.1];rfl
     rw [e] at h9
     exact h9
   · have h9:=hrow 3 (by omega)
     have e : (fun i => ofNats (LE p n2 3 i)) = fun i => ofNats (If.retL (Iv.pf p) i):=by rw [← HED.out.1];rfl
     rw [e] at h9
     exact h9
   · rcases hi with rfl | rfl
     · exact ⟨⟨MX,o16,hMXs,hrep⟩,fun _ _ _ h => (by cases h),fun _ _ _ _ => rfl,fun _ _ _ _ _ h => (by cases h)⟩
     · exact ⟨⟨MX,o18,hMXs,hrep⟩,fun _ _ _ h => (by cases h),fun _ _ _ _ => rfl,fun _ _ _ _ _ h => (by cases h)⟩
   · rw [hOd]
     match i,hi with
     | 0,_ => exact .inr (.inl rfl)
     | 1,_ => exact .inr (.inr (.inl rfl))
     | 2,_ => exact .inr (.inr (.inr (.inl rfl)))
     | 3,_ => exact .inr (.inr (.inr (.inr (.inl rfl))))
   · have h9:=rep_at (v:=Value.slice none 0 0) hn
     rw [HMP.out] at h9
     simp [World.cell?,o27,h9]
 have HM0:=Lib.hid M0
 clear M0 hrep hMXs hent hsd4 hrow hfar hsafe hOl hO hnX hob o14 o16 o18 o25 o27 hrlt lt3 hOd
 go_wp2_with fail
 go_ret
 obtain ⟨K,hI,⟨G,hM⟩,e1,e2,e3,e4,e5,e6,e7,e8,e9,e10,e11,e12⟩:=HM0.out
 exact ⟨K,g,O,G,rfl,hI,hM,e1,e2,e3,e4,e5,e6,e7,e8,e9,e10,e11,e12⟩
end Go.Proofs.YtincpmdldpakkaaGreatDoor
