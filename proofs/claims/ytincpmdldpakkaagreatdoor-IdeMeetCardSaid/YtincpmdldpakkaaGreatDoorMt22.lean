/- Texts: Qn Qo Qi Qu Qv. -/
import Derived.Test.YtincpmdldpakkaaGreatDoorMt21
import Derived.RegionTactic
import Derived.Shelf.Spec.SlicesInsert
import Derived.Shelf.Spec.SlicesInsertGrow
namespace Go.Proofs.YtincpmdldpakkaaGreatDoor
open Go.RowKit Go.Df
attribute [local go_sem ↓] Go.wp_at_zero Go.wp_at_succ
set_option maxHeartbeats 400000 in
theorem pop_two (A1 A2 : Option Addr) (n1 c1 n2 c2 : Nat) (r l : List Int) (w : World) (hr : Ints w A1 n1 r) (hl : Ints w A2 n2 l) (h : Wl.chk r l = 0) (hp : 2 ≤ n2) (hcap : n2 ≤ c2) (hA : A1 = none → n1 = 0) :
   Calls Tryz.prog 137 #[.agg #[.slice A1 n1 c1,.slice A2 n2 c2]] w (GetPop w (gi l 0) r (l.drop 1) true):=by
 have hsz : n1 ≤ 8192 ∧ n2 ≤ 8192:=by
   have h1:=hl.1
   have h2:=hr.1
   rw [Wl.chk] at h
   split at h
   · omega
   · omega
 obtain ⟨s1,s2⟩:=hsz
 have HR:=Lib.hid hr
 have HL:=Lib.hid hl
 have Hl:=Lib.hid hl.1
 have HA:=Lib.hid hA
 have HZ:=Lib.hid h
 obtain ⟨b,o,rfl,hlt,hc⟩:=hl.at_ (by omega)
 have HC:=Lib.hid hc
 clear hr hl hA h hc
 go_enter Tryz.func137,Tryz.ntmps137
 go_upto_region 1 with fail
 refine wp_named (fun W => ∃ b0 b1,w.heap.size = b0 ∧ w.heap.size + 1 = b1 ∧ Blk W b0 [.slice A1 n1 c1,.slice (some ⟨b,o,none⟩) n2 c2] ∧ Blk W b1 [.slice none 0 0,.slice none 0 0] ∧ Below w.heap.size w W) ⟨_,_,rfl,rfl,?_,?_,?_⟩ ?_
 · exact (Blk.new _ _ _ _ (by first | rfl | simp)).alloc _
 · exact kbn
 · go_grown
 rintro W ⟨b0,b1,e0,e1,B0,B1,hB⟩
 rw [e1,e0]
 have G0 : w.heap.size ≤ b0:=by omega
 have n01 : b0 ≠ b1:=by omega
 have G1 : w.heap.size ≤ b1:=by omega
 have n10 : b1 ≠ b0:=by omega
 clear e0 e1
 have ⟨L0,C0,F0⟩:=B0
 have ⟨L1,C1,F1⟩:=B1
 go_wp2_with fail
 refine (wlck_any _ _ _ _ _ _ r l _ (HR.out.later hB) (HL.out.later hB)).mono ?_
 rintro e w1 ⟨rfl,hb1⟩
 rw [HZ.out]
 have hk1 : Kept [] W w1:=Kept.call (Kept.refl _ _) hb1
 have ⟨hc1,hf1,hg1⟩:=hk1.rules
 have z1 : ((n2 : Int) == 0) = false:=by simp;omega
 go_wp2_with fail
 refine (clone_any _ _ _ r _ ((HR.out.later hB).kept hk1) (by omega) HA.out).mono ?_
 rintro e w2 ⟨v1,rfl,hown1,hb2⟩
 obtain ⟨A1',c1',hv1,hi1,hge1⟩:=SIn.of_own hown1
 have hk2 : Kept [] W w2:=Kept.call hk1 hb2
 have hlt2 : b < W.heap.size:=by have:=hB.size;omega
 have HC2 : Hid (∀ i,i < n2 - 1 → w2.cell? ⟨b,o + 1 + i,none⟩ = some (.int .i64 (gi (l.drop 1) i))):=fun i hi => by
   rw [hk2.cell b _ hlt2 (by simp),hB.cell (p:=⟨b,o + 1 + i,none⟩) hlt,show o + 1 + i = o + (1 + i) by omega,HC.out (1 + i) (by omega)]
   rw [gi_lt (by rw [Hl.out];omega),gi_lt (by rw [List.length_drop,Hl.out];omega),List.getElem_drop]
 have HI2 : Hid (Ints w2 (some ⟨b,o + 1,none⟩) (n2 - 1) (l.drop 1)):=⟨by rw [List.length_drop,Hl.out],fun _ => ⟨b,o + 1,rfl,Nat.lt_of_lt_of_le hlt2 hk2.size,HC2.out⟩⟩
 clear hown1
 subst hv1
 go_wp2_with fail
 refine (clone_any _ _ _ (l.drop 1) _ HI2.out (by omega) (fun h => by cases h)).mono ?_
 rintro e w3 ⟨v2,rfl,hown2,hb3⟩
 obtain ⟨A2',c2',hv2,hi2,hge2⟩:=SIn.of_own hown2
 have hk3 : Kept [] W w3:=Kept.call hk2 hb3
 have ⟨L0',C0',F0'⟩:=hk3.blk (by simp) B0
 have ⟨L1',C1',F1'⟩:=hk3.blk (by simp) B1
 have hi1':=hi1.later hb3
 clear hown2
 subst hv2
 go_wp2_with fail
 have hB1:=hk3.blk (by simp) B1
 refine wp_named (fun V => Kept [b1] w3 V ∧ Blk V b1 [.slice A1' n1 c1',.slice A2' (n2 - 1) c2']) ⟨((Kept.refl [b1] w3).set b1 0 _ (.inl (by simp))).set b1 1 _ (.inl (by simp)),(Blk.set2 (hB1.n rfl))⟩ ?_
 rintro V ⟨hkV,BV1⟩
 have BV0:=hkV.blk (by simpa using n01) (hk3.blk (by simp) B0)
 have ⟨L0v,C0v,F0v⟩:=BV0
 have ⟨L1v,C1v,F1v⟩:=BV1
 have hcv : V.cell? ⟨b,o,none⟩ = some (.int .i64 (gi l 0)):=by
   rw [hkV.cell b o (Nat.lt_of_lt_of_le hlt2 hk3.size) (by simp;omega),hk3.cell b o hlt2 (by simp),hB.cell (p:=⟨b,o,none⟩) hlt]
   exact HC.out 0 (by omega)
 clear hc1 hf1 hg1 C0 F0 C1 F1 C0' F0' C1' F1'
 go_region
 refine then_named (fun Wf => Kept [b1] w3 Wf ∧ Blk Wf b1 [.slice A1' n1 c1',.slice A2' (n2 - 1) c2']) ⟨?_,?_⟩ ?_
 · repeat' first | exact hkV | (with_reducible refine Kept.drew ?_) | (with_reducible refine Kept.set ?_ _ _ _ (Or.inl ?_)) | (simp;done)
 · first | exact Blk.set2 (BV1.n rfl) | exact Blk.drew (Blk.set2 (BV1.n rfl))
 rintro Wf ⟨hkf,⟨L1f,C1f,F1f⟩⟩
 go_wp2_with fail
 refine bodyPost_ret (by simp [results,Tryz.results137,go_sem,C1f];rfl) rfl ?_
 refine ⟨_,_,_,_,_,_,rfl,hi1'.keptX hkf (fun _ a ha => ?_),hi2.keptX hkf (fun _ a ha => ?_),?_,fun a ha => ?_,fun a ha => ?_⟩
 · have:=hge1 a ha
   have:=hk1.size
   simp;omega
 · have:=hge2 a ha
   have:=hk2.size
   simp;omega
 · exact hkf.below (hk3.below hB hB.size (by simp)) (Nat.le_trans hB.size hk3.size) (by simpa using G1)
 · have t1:=hge1 a ha;have t2:=hB.size;have t3:=hkf.size;have t4:=hk1.size;have t5:=hb3.size;omega
 · have t1:=hge2 a ha;have t2:=hB.size;have t3:=hkf.size;have t4:=hk2.size;omega
set_option maxHeartbeats 400000 in
theorem pop_one (A1 A2 : Option Addr) (n1 c1 c2 : Nat) (r l : List Int) (w : World) (hr : Ints w A1 n1 r) (hl : Ints w A2 1 l) (h : Wl.chk r l = 0) (hcap : 1 ≤ c2) (hA : A1 = none → n1 = 0) :
   Calls Tryz.prog 137 #[.agg #[.slice A1 n1 c1,.slice A2 1 c2]] w (GetPop w (gi l 0) r (l.drop 1) true):=by
 have hsz : n1 ≤ 8192 ∧ 1 ≤ 8192:=by
   have h1:=hl.1
   have h2:=hr.1
   rw [Wl.chk] at h
   split at h
   · omega
   · omega
 obtain ⟨s1,_⟩:=hsz
 have HR:=Lib.hid hr
 have HL:=Lib.hid hl
 have Hl:=Lib.hid hl.1
 have HA:=Lib.hid hA
 have HZ:=Lib.hid h
 obtain ⟨b,o,rfl,hlt,hc⟩:=hl.at_ (by omega)
 have HC:=Lib.hid hc
 clear hr hl hA h hc
 go_enter Tryz.func137,Tryz.ntmps137
 go_upto_region 1 with fail
 refine wp_named (fun W => ∃ b0 b1,w.heap.size = b0 ∧ w.heap.size + 1 = b1 ∧ Blk W b0 [.slice A1 n1 c1,.slice (some ⟨b,o,none⟩) 1 c2] ∧ Blk W b1 [.slice none 0 0,.slice none 0 0] ∧ Below w.heap.size w W) ⟨_,_,rfl,rfl,?_,?_,?_⟩ ?_
 · exact (Blk.new _ _ _ _ (by first | rfl | simp)).alloc _
 · exact kbn
 · go_grown
 rintro W ⟨b0,b1,e0,e1,B0,B1,hB⟩
 rw [e1,e0]
 have G0 : w.heap.size ≤ b0:=by omega
 have n01 : b0 ≠ b1:=by omega
 have G1 : w.heap.size ≤ b1:=by omega
 have n10 : b1 ≠ b0:=by omega
 clear e0 e1
 have ⟨L0,C0,F0⟩:=B0
 have ⟨L1,C1,F1⟩:=B1
 go_wp2_with fail
 refine (wlck_any _ _ _ _ _ _ r l _ (HR.out.later hB) (HL.out.later hB)).mono ?_
 rintro e w1 ⟨rfl,hb1⟩
 rw [HZ.out]
 have hk1 : Kept [] W w1:=Kept.call (Kept.refl _ _) hb1
 have ⟨hc1,hf1,hg1⟩:=hk1.rules
 go_wp2_with fail
 refine (clone_any _ _ _ r _ ((HR.out.later hB).kept hk1) (by omega) HA.out).mono ?_
 rintro e w2 ⟨v1,rfl,hown1,hb2⟩
 obtain ⟨A1',c1',hv1,hi1,hge1⟩:=SIn.of_own hown1
 have hk2 : Kept [] W w2:=Kept.call hk1 hb2
 have hlt2 : b < W.heap.size:=by have:=hB.size;omega
 have HD : Hid (l.drop 1 = []):=List.eq_nil_of_length_eq_zero (by rw [List.length_drop,Hl.out])
 clear hown1
 subst hv1
 go_wp2_with fail
 refine (clone_any _ _ _ [] _ (Ints.empty _ _) (by omega) (fun _ => rfl)).mono ?_
 rintro e w3 ⟨v2,rfl,hown2,hb3⟩
 obtain ⟨A2',c2',hv2,hi2,hge2⟩:=SIn.of_own hown2
 have hk3 : Kept [] W w3:=Kept.call hk2 hb3
 have ⟨L0',C0',F0'⟩:=hk3.blk (by simp) B0
 have ⟨L1',C1',F1'⟩:=hk3.blk (by simp) B1
 have hi1':=hi1.later hb3
 clear hown2
 subst hv2
 go_wp2_with fail
 have hB1:=hk3.blk (by simp) B1
 refine wp_named (fun V => Kept [b1] w3 V ∧ Blk V b1 [.slice A1' n1 c1',.slice A2' 0 c2']) ⟨((Kept.refl [b1] w3).set b1 0 _ (.inl (by simp))).set b1 1 _ (.inl (by simp)),(Blk.set2 (hB1.n rfl))⟩ ?_
 rintro V ⟨hkV,BV1⟩
 have BV0:=hkV.blk (by simpa using n01) (hk3.blk (by simp) B0)
 have ⟨L0v,C0v,F0v⟩:=BV0
 have ⟨L1v,C1v,F1v⟩:=BV1
 have hcv : V.cell? ⟨b,o,none⟩ = some (.int .i64 (gi l 0)):=by
   rw [hkV.cell b o (Nat.lt_of_lt_of_le hlt2 hk3.size) (by simp;omega),hk3.cell b o hlt2 (by simp),hB.cell (p:=⟨b,o,none⟩) hlt]
   exact HC.out 0 (by omega)
 clear hc1 hf1 hg1 C0 F0 C1 F1 C0' F0' C1' F1'
 go_region
 refine then_named (fun Wf => Kept [b1] w3 Wf ∧ Blk Wf b1 [.slice A1' n1 c1',.slice A2' 0 c2']) ⟨?_,?_⟩ ?_
 · repeat' first | exact hkV | (with_reducible refine Kept.drew ?_) | (with_reducible refine Kept.set ?_ _ _ _ (Or.inl ?_)) | (simp;done)
 · first | exact Blk.set2 (BV1.n rfl) | exact Blk.drew (Blk.set2 (BV1.n rfl))
 rintro Wf ⟨hkf,⟨L1f,C1f,F1f⟩⟩
 go_wp2_with fail
 refine bodyPost_ret (by simp [results,Tryz.results137,go_sem,C1f];rfl) rfl ?_
 rw [HD.out]
 refine ⟨_,_,_,_,_,_,rfl,hi1'.keptX hkf (fun _ a ha => ?_),hi2.keptX hkf (fun _ a ha => ?_),?_,fun a ha => ?_,fun a ha => ?_⟩
 · have:=hge1 a ha
   have:=hk1.size
   simp;omega
 · have:=hge2 a ha
   have:=hk2.size
   simp;omega
 · exact hkf.below (hk3.below hB hB.size (by simp)) (Nat.le_trans hB.size hk3.size) (by simpa using G1)
 · have t1:=hge1 a ha;have t2:=hB.size;have t3:=hkf.size;have t4:=hk1.size;have t5:=hb3.size;omega
 · have t1:=hge2 a ha;have t2:=hB.size;have t3:=hkf.size;have t4:=hk2.size;omega
end Go.Proofs.YtincpmdldpakkaaGreatDoor
namespace Go.Proofs.YtincpmdldpakkaaGreatDoor
open Go.RowKit Go.Df Go.Shelf
def insRen : Ren:=⟨fun | 21 => 201 | 27 => 208 | 28 => 209 | 35 => 219 | 39 => 223 | n => n,fun | 22 => 30 | n => n,fun x => x⟩
theorem insLays : Lays2.n21 Tryz.prog insRen where
 mixed:=by kernel_rfl
 f21:=by kernel_rfl
 f27:=by kernel_rfl
 f28:=by kernel_rfl
 f35:=by kernel_rfl
 f39:=by kernel_rfl
 t0:=by kernel_rfl
 a0:=fun _ => by kernel_rfl
 z0:=fun _ => by kernel_rfl
 v0:=fun _ => by kernel_rfl
 t3:=by kernel_rfl
 a3:=fun _ => by kernel_rfl
 z3:=fun _ => by kernel_rfl
 v3:=fun _ => by kernel_rfl
 t4:=by kernel_rfl
 a4:=fun _ => by kernel_rfl
 z4:=fun _ => by kernel_rfl
 v4:=fun _ => by kernel_rfl
 t22:=by kernel_rfl
 a22:=fun _ => by kernel_rfl
 z22:=fun _ => by kernel_rfl
 v22:=fun _ => by kernel_rfl
 i3:=by kernel_rfl
def Wl.ins (l : List Int) (i : Nat) (x : Int) : List Int:=l.take i ++ x :: l.drop i
theorem Wl.ins_len {l : List Int} {i : Nat} (x : Int) (h : i ≤ l.length) : (Wl.ins l i x).length = l.length + 1:=by
 simp [Wl.ins];omega
theorem Wl.gi_ins {l : List Int} {i : Nat} (x : Int) (h : i ≤ l.length) (j : Nat) : gi (Wl.ins l i x) j = if j < i then gi l j else if j = i then x else gi l (j - 1):=by
 have hl : (l.take i).length = i:=by simp;omega
 simp only [gi,List.getD_eq_getElem?_getD]
 unfold Wl.ins
 by_cases h1 : j < i
 · rw [if_pos h1,List.getElem?_append_left (by omega),List.getElem?_take_of_lt h1]
 · rw [if_neg h1,List.getElem?_append_right (by omega),hl]
   by_cases h2 : j = i
   · subst h2;simp
   · rw [if_neg h2]
     obtain ⟨d,hd⟩ : ∃ d,j - i = d + 1:=⟨j - i - 1,by omega⟩
     rw [hd,List.getElem?_cons_succ,List.getElem?_drop,show i + d = j - 1 by omega]
def GetIns (w : World) (base : Nat) (v : Value) (xs : List Int) (e : Ending) (w' : World) : Prop :=
 ∃ A n c,e = .returned (.slice A n c) ∧ SIn w' A n c xs ∧ (∀ a,A = some a → base ≤ a.block ∧ (v.ownBlock = some a.block ∨ w.heap.size ≤ a.block)) ∧ Kept v.ownBlock.toList w w'
theorem one_at {w : World} {vb : Nat} {x : Int} (h : w.heap[vb]? = some (.cells #[.int .i64 x] 3 (0,0))) : ∀ j v,[Value.int .i64 x][j]? = some v → w.cell? ⟨vb,0 + j,none⟩ = some v:=by
 intro j v hv
 simp only [World.cell?,h]
 cases j with
 | zero => simpa using hv
 | succ j => simp at hv
theorem own_cells {cur : Array Value} {n : Nat} {l : List Int} (ht : cur.toList.take n = l.map (Value.int .i64)) (hl : l.length = n) {w : World} {g : Nat} {t : TypeId} {fr : Nat × Nat} (hh : w.heap[g]? = some (.cells cur t fr)) :
   ∀ j v,(l.map (Value.int .i64))[j]? = some v → w.cell? ⟨g,0 + j,none⟩ = some v:=by
 intro j v hv
 have hj : j < n:=by
   rcases Nat.lt_or_ge j n with h | h
   · exact h
   · rw [List.getElem?_eq_none (by simp;omega)] at hv;cases hv
 rw [← ht,List.getElem?_take_of_lt hj] at hv
 simp only [World.cell?,hh,Nat.zero_add]
 simpa using hv
theorem ins_ints {w' : World} {b n i : Nat} {l : List Int} {x : Int} (hl : l.length = n) (hi : i ≤ n) (hb : b < w'.heap.size)
   (h1 : ∀ j,j < i → w'.cell? ⟨b,j,none⟩ = some (.int .i64 (gi l j))) (h2 : w'.cell? ⟨b,i,none⟩ = some (.int .i64 x)) (h3 : ∀ j,i ≤ j → j < n → w'.cell? ⟨b,j + 1,none⟩ = some (.int .i64 (gi l j))) :
   Ints w' (some ⟨b,0,none⟩) (n + 1) (Wl.ins l i x):=by
 refine ⟨by rw [Wl.ins_len x (by omega),hl],fun _ => ⟨b,0,rfl,hb,fun j hj => ?_⟩⟩
 rw [Wl.gi_ins x (by omega),Nat.zero_add]
 by_cases e1 : j < i
 · rw [if_pos e1];exact h1 j e1
 · rw [if_neg e1]
   by_cases e2 : j = i
   · rw [if_pos e2];subst e2;exact h2
   · rw [if_neg e2]
     have:=h3 (j - 1) (by omega) (by omega)
     rwa [show j - 1 + 1 = j by omega] at this
theorem insert_own (base n i vb : Nat) (v : Value) (l : List Int) (x : Int) (w : World) (hown : w.ownsRow base 3 1 v n (l.map (Value.int .i64))) (hi : i ≤ n) (hn : n ≤ 100000) (hv : w.heap[vb]? = some (.cells #[.int .i64 x] 3 (0,0))) (hne : ∀ g,v.ownBlock = some g → vb ≠ g) (hbase : base ≤ w.heap.size) :
   Calls Tryz.prog 201 #[v,.int .i64 i,.slice (some ⟨vb,0,none⟩) 1 1] w (GetIns w base v (Wl.ins l i x)):=by
 have hl : l.length = n:=by simpa using hown.1
 have h1v : ∀ v ∈ [Value.int .i64 x],v.oneCell' = true:=by intro u hu;simp at hu;subst hu;rfl
 rcases hown.2 with ⟨rfl,rfl⟩ | ⟨g,cap,cur,rfl,hb,hh,hnc,hcm,hcs,htk⟩
 · obtain rfl : i = 0:=by omega
   obtain rfl : l = []:=List.eq_nil_of_length_eq_zero hl
   refine (Any2.slices_Insert_int_end_grow insLays none 0 0 vb 0 1 1 [] [.int .i64 x] w (by omega) (by omega) (by omega) (by omega) rfl rfl (fun _ => rfl) (fun _ h => by cases h) (one_at hv) h1v).mono ?_
   rintro e w' ⟨rfl,rfl⟩
   refine ⟨_,_,_,rfl,⟨?_,?_,?_,fun h => by cases h⟩,?_,?_⟩
   · refine ins_ints rfl (Nat.le_refl _) (by simp) (fun j hj => absurd hj (by omega)) ?_ (fun j h1 h2 => absurd h2 (by omega))
     rw [show w.heap.size = (w.drew).heap.size from rfl,World.cell?_alloc_new,Array.getElem?_append_left (by simp)]
     rfl
   · exact grownCap_ge _ _ _ _
   · exact grownCap_le_maxLen _ _ _ _ (by unfold maxLen;omega)
   · intro a ha;injection ha with ha;subst ha;exact ⟨hbase,.inr (Nat.le_refl _)⟩
   · exact ((Kept.refl _ _).drew).alloc _
 · have hg : g < w.heap.size := by
     rcases Nat.lt_or_ge g w.heap.size with h1 | h1
     · exact h1
     · rw [Array.getElem?_eq_none h1] at hh;cases hh
   simp only [Nat.mul_one] at hcs htk
   have hcells:=own_cells htk hl hh
   have hgi : ∀ j,j < n → w.cell? ⟨g,j,none⟩ = some (.int .i64 (gi l j)):=fun j hj => by
     have:=hcells j _ (map_gi (by omega));rwa [Nat.zero_add] at this
   have hsome : ∀ j,j < cap → (w.cell? ⟨g,0 + j,none⟩).isSome = true:=fun j hj => by
     simp only [World.cell?,hh,Nat.zero_add];simp;omega
   have hfz : ∀ j,w.frozen? ⟨g,j,none⟩ = false:=fun j => by simp [World.frozen?,hh]
   have hX : g ∈ (Value.slice (some ⟨g,0,none⟩) n cap).ownBlock.toList:=by simp [Value.ownBlock]
   have h1c : ∀ v ∈ l.map (Value.int .i64),v.oneCell' = true:=ints_one l
   have hml : (l.map (Value.int .i64)).length = n:=by simpa using hl
   unfold maxLen at hcm
   by_cases hend : i = n
   · subst hend
     by_cases hroom : i + 1 ≤ cap
     · refine (Any2.slices_Insert_int_end_room insLays g 0 i cap vb 0 1 1 [.int .i64 x] w (by omega) hroom (by omega) rfl (fun j hj => by have:=hsome (i + j) (by omega);rwa [← Nat.add_assoc] at this) (fun j _ => hfz _) (one_at hv) h1v).mono ?_
       rintro e w' ⟨rfl,rfl⟩
       have hin:=World.cell?_setCells_in g [.int .i64 x] (0 + i) w (fun j hj => by simp at hj;subst hj;have:=hsome i (by omega);simpa using this) 0 (by simp)
       refine ⟨_,_,_,rfl,⟨?_,hroom,by omega,fun h => by cases h⟩,?_,?_⟩
       · refine ins_ints hl (Nat.le_refl _) (by rw [size_setCells];exact hg) (fun j hj => ?_) (by simpa using hin) (fun j h1 h2 => absurd h2 (by omega))
         rw [World.cell?_setCells_out g _ _ w _ (fun _ _ => .inl (by simp;omega))];exact hgi j hj
       · intro a ha;injection ha with ha;subst ha;exact ⟨hb,.inl rfl⟩
       · exact Kept.setCells g (.inl hX) _ _ (Kept.refl _ _)
     · refine (Any2.slices_Insert_int_end_grow insLays (some ⟨g,0,none⟩) i cap vb 0 1 1 (l.map (Value.int .i64)) [.int .i64 x] w (by omega) hnc (by omega) (by omega) hml rfl (fun h => by cases h) (fun a ha j u hu => by injection ha with ha;subst ha;rw [add_lit];exact hcells j u hu) (one_at hv) h1v).mono ?_
       rintro e w' ⟨rfl,rfl⟩
       refine ⟨_,_,_,rfl,⟨?_,?_,?_,fun h => by cases h⟩,?_,?_⟩
       · refine ins_ints hl (Nat.le_refl _) (by simp) (fun j hj => ?_) ?_ (fun j h1 h2 => absurd h2 (by omega))
         · rw [show w.heap.size = (w.drew).heap.size from rfl,World.cell?_alloc_new,Array.getElem?_append_left (by simp;omega)]
           simp [List.getElem?_append_left,hl,hj,gi_lt]
         · rw [show w.heap.size = (w.drew).heap.size from rfl,World.cell?_alloc_new,Array.getElem?_append_left (by simp;omega)]
           simp [hl]
       · exact grownCap_ge _ _ _ _
       · exact grownCap_le_maxLen _ _ _ _ (by unfold maxLen;omega)
       · intro a ha;injection ha with ha;subst ha;exact ⟨hbase,.inr (Nat.le_refl _)⟩
       · exact ((Kept.refl _ _).drew).alloc _
   · by_cases hroom : n + 1 ≤ cap
     · have hvl : vb < w.heap.size := by
         rcases Nat.lt_or_ge vb w.heap.size with h1 | h1
         · exact h1
         · rw [Array.getElem?_eq_none h1] at hv;cases hv
       refine (Any2.slices_Insert_int_shift insLays g 0 n cap i vb 0 1 1 (l.map (Value.int .i64)) [.int .i64 x] w (by omega) (by omega) hroom (by omega) (hne g rfl) hml rfl hcells (fun j hj => hsome j (by omega)) (fun j _ => hfz _) (one_at hv) h1c h1v 3 3 1 cap (by simp [World.shape?,hv]) (by simp [World.shape?,hh,hcs]) (by omega) (by simp [World.frozen?,hv]) (by simp [World.frozen?,hv])).mono ?_
       rintro e w' ⟨rfl,rfl⟩
       have hdl : ((l.map (Value.int .i64)).drop i).length = n - i:=by rw [List.length_drop,hml]
       have hdr : ∀ j,j < n - i → ((l.map (Value.int .i64)).drop i)[j]? = some (.int .i64 (gi l (i + j))):=fun j hj => by
         rw [List.getElem?_drop,map_gi (by omega)]
       have hs1 : ∀ j,j < cap → ((w.drew.setCells g (0 + (i + 1)) ((l.map (Value.int .i64)).drop i)).cell? ⟨g,j,none⟩).isSome = true:=fun j hj => isSome_setCells g _ _ _ (fun k hk => by have:=hsome (i + 1 + k) (by omega);simpa [Nat.add_assoc] using this) j (by have:=hsome j hj;simpa using this)
       refine ⟨_,_,_,rfl,⟨?_,hroom,by omega,fun h => by cases h⟩,?_,?_⟩
       · refine ins_ints hl hi (by rw [size_setCells,size_setCells];exact hg) (fun j hj => ?_) ?_ (fun j h1 h2 => ?_)
         · rw [World.cell?_setCells_out g _ _ _ _ (fun _ _ => .inl (by simp;omega)),World.cell?_setCells_out g _ _ _ _ (fun _ _ => .inl (by simp;omega))]
           exact hgi j (by omega)
         · have:=World.cell?_setCells_in g [.int .i64 x] (0 + i) (w.drew.setCells g (0 + (i + 1)) ((l.map (Value.int .i64)).drop i)) (fun j hj => by simp at hj;subst hj;have:=hs1 i (by omega);simpa using this) 0 (by simp)
           simpa using this
         · rw [World.cell?_setCells_out g _ _ _ _ (fun _ _ => .inr (by simp;omega))]
           have:=World.cell?_setCells_in g ((l.map (Value.int .i64)).drop i) (0 + (i + 1)) w.drew (fun k hk => by have:=hsome (i + 1 + k) (by omega);simpa [Nat.add_assoc] using this) (j - i) (by omega)
           rw [show 0 + (i + 1) + (j - i) = j + 1 by omega] at this
           rw [this]
           have h5:=hdr (j - i) (by omega)
           rw [List.getElem?_eq_getElem (by omega),show i + (j - i) = j by omega] at h5
           exact h5
       · intro a ha;injection ha with ha;subst ha;exact ⟨hb,.inl rfl⟩
       · exact Kept.setCells g (.inl hX) _ _ (Kept.setCells g (.inl hX) _ _ (Kept.refl _ _).drew)
     · refine (Any2.slices_Insert_int_grow insLays g 0 n cap i vb 0 1 1 (l.map (Value.int .i64)) [.int .i64 x] w (by omega) (by omega) hnc (by omega) (by omega) hml rfl hcells (one_at hv) h1c h1v).mono ?_
       rintro e w' ⟨rfl,rfl⟩
       have hge:=grownCap_ge w (n + 1) cap (insRen.t 3)
       have hdl : ((l.map (Value.int .i64)).drop i).length = n - i:=by rw [List.length_drop,hml]
       have hdr : ∀ j,j < n - i → ((l.map (Value.int .i64)).drop i)[j]? = some (.int .i64 (gi l (i + j))):=fun j hj => by
         rw [List.getElem?_drop,map_gi (by omega)]
       generalize hC : grownCap w (n + 1) cap (insRen.t 3) = C at *
       have hsz : ∀ k,(Builtin.zeroCells (Value.int .i64 0).cells k).size = k:=by intro k;simp [Builtin.zeroCells,Value.cells]
       obtain ⟨w1,hw1⟩ : ∃ w1 : World,w1 = (w.alloc (.cells (((l.map (Value.int .i64)).take i).toArray ++ Builtin.zeroCells (Value.int .i64 0).cells (n + 1 - i) ++ Builtin.zeroCells (Value.int .i64 0).cells (C - (n + 1))) (insRen.t 3))):=⟨_,rfl⟩
       rw [← hw1]
       have hc1 : ∀ j,w1.cell? ⟨w.heap.size,j,none⟩ = (((l.map (Value.int .i64)).take i).toArray ++ Builtin.zeroCells (Value.int .i64 0).cells (n + 1 - i) ++ Builtin.zeroCells (Value.int .i64 0).cells (C - (n + 1)))[j]?:=fun j => by rw [hw1,World.cell?_alloc_new]
       have hsome1 : ∀ j,j < n + 1 → (w1.cell? ⟨w.heap.size,j,none⟩).isSome = true:=fun j hj => by
         rw [hc1];simp [hsz,hl];omega
       have hk1 : Kept (Value.slice (some ⟨g,0,none⟩) n cap).ownBlock.toList w w1:=by rw [hw1];exact (Kept.refl _ _).alloc _
       have hz1 : w1.heap.size = w.heap.size + 1:=by rw [hw1];simp
       refine ⟨_,_,_,rfl,⟨?_,hge,?_,fun h => by cases h⟩,?_,?_⟩
       · refine ins_ints hl hi (by rw [size_setCells];show _ < (w1.drew.setCells _ _ _).heap.size;rw [size_setCells];show _ < w1.heap.size;omega) (fun j hj => ?_) ?_ (fun j h1 h2 => ?_)
         · rw [World.cell?_setCells_out _ _ _ _ _ (fun _ _ => .inl (by simp;omega))]
           show (w1.drew.setCells _ _ _).cell? _ = _
           rw [World.cell?_setCells_out _ _ _ _ _ (fun _ _ => .inl (by simp;omega))]
           show w1.cell? _ = _
           rw [hc1,Array.append_assoc,Array.getElem?_append_left (by simp [hl];omega)]
           rw [List.getElem?_toArray,List.getElem?_take_of_lt hj,map_gi (by omega)]
         · rw [World.cell?_setCells_out _ _ _ _ _ (fun _ _ => .inl (by simp))]
           show (w1.drew.setCells _ _ _).cell? _ = _
           have:=World.cell?_setCells_in w.heap.size [.int .i64 x] i w1.drew (fun j hj => by simp at hj;subst hj;exact hsome1 i (by omega)) 0 (by simp)
           simpa using this
         · have h4 : ∀ k, k < n + 1 → ((w1.drew.setCells w.heap.size i [Value.int .i64 x]).drew.cell? ⟨w.heap.size, k, none⟩).isSome = true := fun k hk => by
             show ((w1.drew.setCells w.heap.size i [Value.int .i64 x]).cell? ⟨w.heap.size,k,none⟩).isSome = true
             exact isSome_setCells _ _ _ _ (fun j hj => by simp at hj;subst hj;exact hsome1 i (by omega)) k (hsome1 k hk)
           have:=World.cell?_setCells_in w.heap.size ((l.map (Value.int .i64)).drop i) (i + 1) (w1.drew.setCells w.heap.size i [Value.int .i64 x]).drew (fun k hk => h4 _ (by omega)) (j - i) (by omega)
           rw [show i + 1 + (j - i) = j + 1 by omega] at this
           rw [this]
           have h5:=hdr (j - i) (by omega)
           rw [List.getElem?_eq_getElem (by omega),show i + (j - i) = j by omega] at h5
           exact h5
       · rw [← hC];exact grownCap_le_maxLen _ _ _ _ (by unfold maxLen;omega)
       · intro a ha;injection ha with ha;subst ha;exact ⟨hbase,.inr (Nat.le_refl _)⟩
       · refine Kept.setCells _ (.inr (Nat.le_refl _)) _ _ (Kept.drew (Kept.setCells _ (.inr (Nat.le_refl _)) _ _ hk1.drew))
end Go.Proofs.YtincpmdldpakkaaGreatDoor
namespace Go.Proofs.YtincpmdldpakkaaGreatDoor
open Go.RowKit Go.Df
attribute [local go_sem ↓] Go.wp_at_zero Go.wp_at_succ
def Wl.perr (r l : List Int) (x : Int) : Int :=
 if Wl.chk r l ≠ 0 then Wl.chk r l else if Wl.allowed r.length x = false then 4 else if x ∉ l ∧ 8192 ≤ l.length then 3 else 0
theorem Wl.perr_ok {r l : List Int} {x : Int} (h : Wl.perr r l x = 0) : Wl.chk r l = 0 ∧ Wl.allowed r.length x = true ∧ r.length ≤ 8192 ∧ l.length ≤ 8192 ∧ (x ∉ l → l.length < 8192):=by
 have hz : Wl.chk r l = 0:=by
   unfold Wl.perr at h;split at h
   · contradiction
   · rename_i h1;simpa using h1
 have ha : Wl.allowed r.length x = true:=by
   unfold Wl.perr at h;rw [hz] at h
   by_cases h2 : Wl.allowed r.length x = true
   · exact h2
   · rw [Bool.not_eq_true] at h2;rw [h2] at h;simp at h
 have hsz : r.length ≤ 8192 ∧ l.length ≤ 8192:=by
   have hz2:=hz
   rw [Wl.chk] at hz2
   split at hz2
   · omega
   · omega
 refine ⟨hz,ha,hsz.1,hsz.2,fun hm => ?_⟩
 unfold Wl.perr at h
 rw [hz,ha] at h
 simp [hm] at h
 omega
end Go.Proofs.YtincpmdldpakkaaGreatDoor
