/- Texts: Br Bs Co Cp Bd Cq Cr Cs Ct Cv Cw Bu By Cx Cb Ab Ak. -/
import Derived.Test.YtincpmdldpakkaaGreatDoorMt08
import Derived.Test.YtincpmdldpakkaaGreatDoorMt06
import Derived.Test.YtincpmdldpakkaaGreatDoorMt07
import Derived.Test.YtincpmdldpakkaaGreatDoorMt26
import Derived.Test.YtincpmdldpakkaaGreatDoorMt18
namespace Go.Df
open Go.RowKit
namespace Iv
open Sp
def fromsX (l : List Xp) (d : Nat) : List Xp:=l.filter fun q => q.i == (d : Int)
theorem mem_fromsX {l : List Xp} {d : Nat} {q : Xp} : q ∈ fromsX l d ↔ q ∈ l ∧ q.i = d:=by simp [fromsX]
theorem filter_all {l : List Xp} {d : Int} (h : ∀ q ∈ l,q.i = d) : l.filter (fun q => q.i == d) = l:=List.filter_eq_self.2 fun q hq => by simpa using h q hq
theorem filter_no {l : List Xp} {d : Int} (h : ∀ q ∈ l,q.i ≠ d) : l.filter (fun q => q.i == d) = []:=List.filter_eq_nil_iff.2 fun q hq => by simpa using h q hq
theorem fromsX_mid {l : List Xp} {a m d : Nat} (h0 : a + m ≤ l.length) (h1 : ∀ j,j < a → (gx l j).i ≠ d) (h2 : ∀ j,a ≤ j → j < a + m → (gx l j).i = d) (h3 : ∀ j,a + m ≤ j → j < l.length → (gx l j).i ≠ d) : fromsX l d = (l.drop a).take m:=by
 have e : l = l.take a ++ ((l.drop a).take m ++ (l.drop a).drop m):=by rw [List.take_append_drop,List.take_append_drop]
 unfold fromsX
 conv => lhs;rw [e]
 rw [List.filter_append,List.filter_append]
 rw [filter_no (l:=l.take a),filter_all (l:=(l.drop a).take m),filter_no (l:=(l.drop a).drop m)]
 · simp
 · intro q hq
   rw [List.drop_drop] at hq
   obtain ⟨j,hj,rfl⟩:=List.getElem_of_mem hq
   rw [List.length_drop] at hj
   rw [List.getElem_drop,← gx_lt (by omega)]
   exact h3 _ (by omega) (by omega)
 · intro q hq
   obtain ⟨j,hj,rfl⟩:=List.getElem_of_mem hq
   rw [List.length_take,List.length_drop] at hj
   rw [List.getElem_take,List.getElem_drop,← gx_lt (by omega)]
   exact h2 _ (by omega) (by omega)
 · intro q hq
   obtain ⟨j,hj,rfl⟩:=List.getElem_of_mem hq
   rw [List.length_take] at hj
   rw [List.getElem_take,← gx_lt (by omega)]
   exact h1 _ (by omega)
theorem _root_.Go.Df.Xps.mid {w : World} {b o n a m : Nat} {l : List Xp} (h : Xps w (some ⟨b,o,none⟩) n l) (h0 : a + m ≤ n) (hl : 0 < n) : Xps w (some ⟨b,o + a * 5,none⟩) m ((l.drop a).take m):=by
 obtain ⟨b',o',e,hlt,hc⟩:=h.2 hl
 injection e with e;injection e with e1 e2;subst e1 e2
 have hn:=h.1
 refine ⟨by rw [List.length_take,List.length_drop];omega,fun _ => ⟨b,o + a * 5,rfl,hlt,fun i hi => ?_⟩⟩
 have e : gx ((l.drop a).take m) i = gx l (a + i):=by
   rw [gx_lt (by rw [List.length_take,List.length_drop];omega),gx_lt (by omega),List.getElem_take,List.getElem_drop]
 rw [e,show o + a * 5 + i * 5 = o + (a + i) * 5 by omega]
 exact hc (a + i) (by omega)
def GetXs (w0 : World) (w : World) (l : List Xp) (e : Ending) (w' : World) : Prop:=∃ A n c,e = .returned (.slice A n c) ∧ Xps w0 A n l ∧ Below w.heap.size w w'
end Iv
end Go.Df
namespace Go.Proofs.YtincpmdldpakkaaGreatDoor
open Go.RowKit Go.Df Go.Df.Iv Go.Df.Sp
attribute [local go_sem ↓] Go.wp_at_zero Go.wp_at_succ
set_option maxRecDepth 100000 in
set_option maxHeartbeats 1000000 in
theorem fat1_any (n c b o b0 b1 j : Nat) (nd sn : Int) (w : World) (B0 : Blk w b0 [.slice (some ⟨b,o,none⟩) n c]) (B1 : Blk w b1 [.int .i64 nd])
   (hj : j < n) (h1 : w.cell? ⟨b,o + j * 5,none⟩ = some (.int .i64 sn)) :
   Calls Tryz.prog 143 #[.int .i64 j,.pointer (some ⟨b0,0,none⟩),.pointer (some ⟨b1,0,none⟩)] w fun e w' => e = .returned (.bool (decide (nd ≤ sn))) ∧ Below w.heap.size w w':=by
 have ⟨L0,C0,F0⟩:=B0
 have ⟨L1,C1,F1⟩:=B1
 have hj1 : (j : Int) < (n : Int):=by omega
 go_enter Tryz.func143,Tryz.ntmps143
 go_upto_region 1 with fail
 go_quiet (fail)
 go_wp2_with fail
 go_ret
 exact ⟨rfl,((Kept.refl [] w).drewN _).toBelow⟩
set_option maxRecDepth 100000 in
set_option maxHeartbeats 4000000 in
theorem fsearch_any (b0 b1 n : Nat) (p : Nat → Bool) (w : World) (hsz : n < 4611686018427387904)
   (hf : ∀ (wr : World) (i : Nat),Kept [] w wr → i < n → Calls Tryz.prog 143 #[.int .i64 i,.pointer (some ⟨b0,0,none⟩),.pointer (some ⟨b1,0,none⟩)] wr fun e w' => e = .returned (.bool (p i)) ∧ Below wr.heap.size wr w')
   (hmono : ∀ a b,a ≤ b → b < n → p a = true → p b = true) :
   Calls Tryz.prog 142 #[.int .i64 n,.func (.func 143) #[] #[.pointer (some ⟨b0,0,none⟩),.pointer (some ⟨b1,0,none⟩)]] w fun e w' =>
     ∃ r : Nat,e = .returned (.int .i64 r) ∧ r ≤ n ∧ (∀ t,t < r → p t = false) ∧ (∀ t,r ≤ t → t < n → p t = true) ∧ Below w.heap.size w w':=by
 have HF:=Lib.hid hf
 have HM:=Lib.hid hmono
 clear hf hmono
 go_enter Tryz.func142,Tryz.ntmps142
 go_wp2_with fail
 go_loopw [5,6] (fun s5 s6 wr => ∃ (lo hi : Nat),s5 = .int .i64 lo ∧ s6 = .int .i64 hi ∧ lo ≤ hi ∧ hi ≤ n ∧ Kept [] w wr ∧ Hid ((∀ t,t < lo → p t = false) ∧ (∀ t,hi ≤ t → t < n → p t = true))) (fun a b _ => (intOf b).toNat - (intOf a).toNat)
 case atStart => exact ⟨0,n,rfl,rfl,Nat.zero_le _,Nat.le_refl _,Kept.refl _ _,Lib.hid ⟨fun t ht => absurd ht (Nat.not_lt_zero _),fun t h1 h2 => by omega⟩⟩
 case round =>
   obtain ⟨lo,hi,rfl,rfl,hlh,hin,hkr,I⟩:=hrel
   by_cases hlt : lo < hi
   · have hc:=HF.out wr ((lo + hi) / 2) hkr (by omega)
     rw [show (((lo + hi) / 2 : Nat) : Int) = ((lo : Int) + (hi : Int)) / 2 by omega] at hc
     obtain ⟨q,hq⟩ : ∃ q,p ((lo + hi) / 2) = q:=⟨_,rfl⟩
     rw [hq] at hc
     have HQ:=Lib.hid hq
     clear hq
     cases q
     · go_wp2_with (go_at_call 143;refine hc.mono ?_;rintro e w5 ⟨rfl,hb5⟩)
       refine ⟨⟨(lo + hi) / 2 + 1,hi,by rw [show ((lo : Int) + (hi : Int)) / 2 + 1 = (((lo + hi) / 2 + 1 : Nat) : Int) by omega],rfl,by omega,hin,hkr.call hb5,Lib.hid ⟨fun t ht => ?_,I.out.2⟩⟩,by simp [intOf];omega⟩
       cases h : p t with
       | false => rfl
       | true => have:=HM.out t ((lo + hi) / 2) (by omega) (by omega) h;rw [HQ.out] at this;cases this
     · go_wp2_with (go_at_call 143;refine hc.mono ?_;rintro e w5 ⟨rfl,hb5⟩)
       exact ⟨⟨lo,(lo + hi) / 2,rfl,by rw [show ((lo : Int) + (hi : Int)) / 2 = (((lo + hi) / 2 : Nat) : Int) by omega],by omega,by omega,hkr.call hb5,Lib.hid ⟨I.out.1,fun t ht htn => HM.out ((lo + hi) / 2) t ht htn HQ.out⟩⟩,by simp [intOf];omega⟩
   · obtain rfl : hi = lo:=by omega
     go_wp2_with fail
     go_ret
     exact ⟨hi,rfl,hin,I.out.1,I.out.2,hkr.toBelow⟩
set_option maxRecDepth 100000 in
set_option maxHeartbeats 4000000 in
theorem from_any (A : Option Addr) (n c d : Nat) (l : List Xp) (w0 w : World) (hp : Xps w0 A n l) (hbw : Below w0.heap.size w0 w) (hn0 : 0 < n) (hn : n ≤ 8192) (hc : n ≤ c) (hsrt : ∀ i j,i ≤ j → j < l.length → (gx l i).i ≤ (gx l j).i) :
   Calls Tryz.prog 84 #[.slice A n c,.int .i64 d] w (GetXs w0 w (fromsX l d)):=by
 obtain ⟨b,o,rfl,hl0,hc0⟩:=hp.2 hn0
 have HP:=Lib.hid hp
 have HN:=Lib.hid hp.1
 have HR:=Lib.hid hsrt
 have HC : Hid (∀ i,i < n → w.cell? ⟨b,o + i * 5,none⟩ = some (.int .i64 (gx l i).i)):=fun i hi => (hbw.cell (p:=⟨b,_,none⟩) hl0).trans (hc0 i hi).1
 have hl : b < w.heap.size:=Nat.lt_of_lt_of_le hl0 hbw.size
 clear hp hsrt hc0 hbw hl0
 go_enter Tryz.func84,Tryz.ntmps84
 go_upto_region 1 with fail
 refine wp_named (fun W => ∃ b0 b1,w.heap.size = b0 ∧ w.heap.size + 1 = b1 ∧ Blk W b0 [.slice (some ⟨b,o,none⟩) n c] ∧ Blk W b1 [.int .i64 d] ∧ Below w.heap.size w W) ⟨_,_,rfl,rfl,?_,?_,?_⟩ ?_
 · exact (Blk.new _ _ _ _ (by first | rfl | simp)).alloc _
 · exact kbn
 · go_grown
 rintro W ⟨b0,b1,e0,e1,B0,B1,hB⟩
 rw [e1,e0]
 have G0 : w.heap.size ≤ b0:=by omega
 have n01 : b0 ≠ b1:=by omega
 have G1 : w.heap.size ≤ b1:=by omega
 have n10 : b1 ≠ b0:=by omega
 clear e0 e1
 have ⟨L0,C0,F0⟩:=B0
 have ⟨L1,C1,F1⟩:=B1
 have hkW : Kept [] w W:=(Kept.refl _ _).call hB
 have HFF : Hid (∀ (wr : World) (i : Nat),Kept [] W wr → i < n → Calls Tryz.prog 143 #[.int .i64 i,.pointer (some ⟨b0,0,none⟩),.pointer (some ⟨b1,0,none⟩)] wr fun e w' => e = .returned (.bool ((fun i => decide ((d : Int) ≤ (gx l i).i)) i)) ∧ Below wr.heap.size wr w'):=by
   intro wr i hk hi
   exact fat1_any n c b o b0 b1 i d _ wr (hk.blk (by simp) B0) (hk.blk (by simp) B1) hi (((keptTrans hkW hk).cell b _ hl (by simp)).trans (HC.out i hi))
 have HMM : Hid (∀ a b,a ≤ b → b < n → (fun i => decide ((d : Int) ≤ (gx l i).i)) a = true → (fun i => decide ((d : Int) ≤ (gx l i).i)) b = true):=fun a b h1 h2 h3 => by
   simp only [decide_eq_true_eq] at *
   have:=HR.out a b h1 (by rw [HN.out];exact h2)
   omega
 go_upto_region 2 with (go_at_call 142;refine (fsearch_any b0 b1 n _ _ (by omega) HFF.out HMM.out).mono ?_;rintro e w1 ⟨r,rfl,hr,hr1,hr2,hb1⟩)
 have hk1 : Kept [] W w1:=(Kept.refl _ _).call hb1
 have HR1 : Hid (∀ j,j < r → (gx l j).i ≠ d):=fun j hj => by have:=hr1 j hj;simp at this;omega
 have HR2 : Hid (∀ j,r ≤ j → j < n → d ≤ (gx l j).i):=fun j h1 h2 => by have:=hr2 j h1 h2;simpa using this
 clear hr1 hr2 HFF HMM C0 F0 C1 F1
 go_wp2_with fail
 go_loopw [6] (fun i wr => ∃ j : Nat,r ≤ j ∧ j ≤ n ∧ i = .int .i64 j ∧ Kept [] W wr ∧ Hid (∀ x,r ≤ x → x < j → (gx l x).i = d)) (fun i _ => n - (intOf i).toNat)
 case atStart => exact ⟨r,Nat.le_refl _,hr,rfl,hk1,Lib.hid (fun x h1 h2 => absurd h1 (by omega))⟩
 case round =>
   obtain ⟨j,hrj,hj,rfl,hkr,hall⟩:=hrel
   have ⟨L2,C2,F2⟩:=hkr.blk (by simp) B0
   have ⟨L3,C3,F3⟩:=hkr.blk (by simp) B1
   have hkwr : Kept [] w wr:=keptTrans hkW hkr
   by_cases hlt : j < n
   · obtain ⟨sn,hsn⟩ : ∃ sn,(gx l j).i = sn:=⟨_,rfl⟩
     have r1 : wr.cell? ⟨b,o + j * 5,none⟩ = some (.int .i64 sn):=by rw [← hsn];exact (hkwr.cell b _ hl (by simp)).trans (HC.out j hlt)
     have hlr : b < wr.heap.size:=Nat.lt_of_lt_of_le hl hkwr.size
     have HSN:=Lib.hid hsn
     clear hsn
     have hj1 : (j : Int) < (n : Int):=by omega
     by_cases hnd : sn = d
     · have e1 : (sn == (d : Int)) = true:=by simpa using hnd
       have HA : Hid (∀ x,r ≤ x → x < j + 1 → (gx l x).i = d):=fun x h1 h2 => by
         rcases Nat.lt_or_ge x j with h9 | h9
         · exact hall.out x h1 h9
         · obtain rfl : x = j:=by omega
           rw [HSN.out];exact hnd
       clear hnd
       go_upto_region 3 with fail
       go_quiet (fail)
       go_wp2_with fail
       exact ⟨⟨j + 1,by omega,by omega,by go_num,hkr.drewN _,HA⟩,by simp [intOf];omega⟩
     · have e1 : (sn == (d : Int)) = false:=by simpa using hnd
       have HA : Hid (∀ x,j ≤ x → x < n → (gx l x).i ≠ d):=fun x h1 h2 => by
         have h3:=HR.out j x h1 (by rw [HN.out];exact h2)
         have h4:=HR2.out j hrj hlt
         rw [HSN.out] at h3 h4
         omega
       clear hnd
       have hjc : j ≤ c:=by omega
       have hrc : ¬ c = r:=by omega
       go_upto_region 3 with fail
       go_quiet (fail)
       go_wp2_with fail
       go_ret
       have hf:=fromsX_mid (l:=l) (a:=r) (m:=j - r) (d:=d) (by rw [HN.out];omega) HR1.out (fun x h1 h2 => hall.out x h1 (by omega)) (fun x h1 h2 => HA.out x (by omega) (by rw [HN.out] at h2;exact h2))
       refine ⟨_,j - r,_,rfl,?_,(hkwr.drewN _).toBelow⟩
       rw [hf]
       simpa [add_lit] using HP.out.mid (a:=r) (m:=j - r) (by omega) hn0
   · obtain rfl : j = n:=by omega
     have hjc : j ≤ c:=by omega
     have hf:=fromsX_mid (l:=l) (a:=r) (m:=j - r) (d:=d) (by rw [HN.out];omega) HR1.out (fun x h1 h2 => hall.out x h1 (by omega)) (fun x h1 h2 => absurd h2 (by rw [HN.out];omega))
     have HFM:=Lib.hid hf
     clear hf
     by_cases hrc : c = r
     · obtain rfl : j = r:=by omega
       subst hrc
       go_upto_region 3 with fail
       go_quiet (fail)
       go_wp2_with fail
       go_ret
       refine ⟨some ⟨b,o,none⟩,0,0,by simp,?_,(hkwr.drewN _).toBelow⟩
       rw [HFM.out]
       exact ⟨by simp,fun h => absurd h (by omega)⟩
     go_upto_region 3 with fail
     go_quiet (fail)
     go_wp2_with fail
     go_ret
     refine ⟨_,j - r,_,rfl,?_,(hkwr.drewN _).toBelow⟩
     rw [HFM.out]
     simpa [add_lit] using HP.out.mid (a:=r) (m:=j - r) (by omega) hn0
end Go.Proofs.YtincpmdldpakkaaGreatDoor
namespace Go.Df.Iv
open Go Go.RowKit Go.Df.Sp
structure Ex (p : Vb) (s t : St) : Prop where
 gw : Gw s t
 good : Good p t
 mea : mea p t ≤ mea p s
theorem Ex.refl {p : Vb} {s : St} (h : Good p s) : Ex p s s:=⟨Gw.refl s,h,Nat.le_refl _⟩
theorem Ex.trans {p : Vb} {s t u : St} (h : Ex p s t) (k : Ex p t u) : Ex p s u:=⟨h.gw.trans k.gw,k.good,Nat.le_trans k.mea h.mea⟩
theorem Ex.inc {p : Vb} {s : St} (h : Good p s) {n a d : Nat} {x : D} (hn : n < p.ns.length) (ha : a < p.F.toNat) (hd : d < p.F.toNat) (hx : ∀ Y,Clo p Y → le (Y n a d) x) : Ex p s (s.inc n a d x):=⟨inc_gw s n a d x,h.inc hn ha hd hx,inc_mea hn ha hd⟩
theorem VOk.edge {p : Vb} (h : VOk p) {k : Nat} (hk : k < p.es.length) :
   0 ≤ (ge p.es k).a ∧ (ge p.es k).a < p.ns.length ∧ 0 ≤ (ge p.es k).b ∧ (ge p.es k).b < p.ns.length ∧ 1 ≤ (ge p.es k).k ∧ (ge p.es k).k ≤ 5 ∧ ((ge p.es k).k ≠ 1 → (ge p.es k).k ≠ 5 → 0 ≤ (ge p.es k).c ∧ (ge p.es k).c < p.ns.length) ∧ fitsB p.ns p.es (ge p.es k) = true:=If.Ok.edge (p:=Iv.pf p) h.pf hk
theorem gx_mono {p : Vb} (ho : VOk p) {k : Nat} : ∀ i j,i ≤ j → j < (gl p.fl k).length → (gx (gl p.fl k) i).i ≤ (gx (gl p.fl k) j).i:=by
 intro i j
 induction j with
 | zero => intro h _; obtain rfl : i = 0 := by omega
           exact Int.le_refl _
 | succ j ih =>
   intro h hj
   by_cases e : i = j + 1
   · subst e;exact Int.le_refl _
   · have h1:=ih (by omega) (by omega)
     have h2:=(pair_in ((ho.fl k (mem_gl (gx_mem hj))).2.1 (j + 1) hj)).2.2.2.2.2 (by omega)
     have h3 : (gx (gl p.fl k) j).i ≤ (gx (gl p.fl k) (j + 1)).i:=by
       unfold lessP at h2
       simp only [Nat.add_sub_cancel] at h2
       split at h2
       · simp at h2;omega
       · rename_i h4;omega
     omega
end Go.Df.Iv
namespace Go.Proofs.YtincpmdldpakkaaGreatDoor
open Go.RowKit Go.Df Go.Df.Iv Go.Df.Sp
section
variable {p : Vb} {K : Kn} {w0 w w' : World} {b : Nat} {O O' : Nat → Prop} {G : Gh} {s s' : St}
def GetP (p : Vb) (K : Kn) (w0 : World) (b : Nat) (O : Nat → Prop) (G : Gh) (w : World) (s : St) (Q : St → Prop) (e : Ending) (w' : World) : Prop:=∃ s' O' G',e = .returned (.tuple #[]) ∧ Mem p K w0 b O' G' w' s' ∧ Fy K O O' G G' s s' w w' ∧ Ex p s s' ∧ Q s'
theorem GetS.from {v : World} {e : Ending} (h : GetS p K w0 b O G w s s' e w') (hk : Kept [] v w) : GetS p K w0 b O G v s s' e w':=by
 obtain ⟨O',G',h1,h2,h3⟩:=h
 exact ⟨O',G',h1,h2,(Fy.kept K O G s hk).trans h3⟩
theorem GetP.from {v : World} {Q : St → Prop} {e : Ending} (h : GetP p K w0 b O G w s Q e w') (hk : Kept [] v w) : GetP p K w0 b O G v s Q e w':=by
 obtain ⟨s',O',G',h1,h2,h3,h4⟩:=h
 exact ⟨s',O',G',h1,h2,(Fy.kept K O G s hk).trans h3,h4⟩
theorem GetS.ex {n a d : Nat} {x : D} {e : Ending} (h : GetS p K w0 b O G w s (s.inc n a d x) e w') (hg : Iv.Good p s) (hn : n < p.ns.length) (ha : a < p.F.toNat) (hd : d < p.F.toNat) (hx : ∀ Y,Clo p Y → le (Y n a d) x) : GetP p K w0 b O G w s (fun t => le (t.T n a d) x) e w':=by
 obtain ⟨O',G',h1,h2,h3⟩:=h
 exact ⟨_,O',G',h1,h2,h3,Ex.inc hg hn ha hd hx,inc_le s n a d x⟩
theorem Inp.edge (hI : Inp p K w0) (ho : VOk p) (hb : Below w0.heap.size w0 w) {k : Nat} (hk : k < p.es.length) : ∃ b2 o2 a e : Nat,K.A2 = some ⟨b2,o2,none⟩ ∧ b2 < w0.heap.size ∧ b2 < w.heap.size ∧ (k : Int) < (K.n2 : Int) ∧ (ge p.es k).a = (a : Int) ∧ (ge p.es k).b = (e : Int) ∧ a < p.ns.length ∧ e < p.ns.length ∧
   w.cell? ⟨b2,o2 + k * 4,none⟩ = some (.int .i64 a) ∧ w.cell? ⟨b2,o2 + k * 4 + 1,none⟩ = some (.int .i64 e) ∧ w.cell? ⟨b2,o2 + k * 4 + 2,none⟩ = some (.int .i64 (ge p.es k).k) ∧ w.cell? ⟨b2,o2 + k * 4 + 3,none⟩ = some (.int .i64 (ge p.es k).c):=by
 have hn : k < K.n2:=by rw [← hI.ed.1];exact hk
 obtain ⟨b2,o2,e2,hl,hc⟩:=hI.ed.2 (by omega)
 obtain ⟨h1,h2,h3,h4⟩:=hc k hn
 have h5:=ho.edge hk
 obtain ⟨a,ha⟩:=Int.eq_ofNat_of_zero_le h5.1
 obtain ⟨e,he⟩:=Int.eq_ofNat_of_zero_le h5.2.2.1
 refine ⟨b2,o2,a,e,e2,hl,Nat.lt_of_lt_of_le hl hb.size,by omega,ha,he,by omega,by omega,?_,?_,?_,?_⟩
 · rw [← ha];exact (hb.cell (p:=⟨b2,_,none⟩) hl).trans h1
 · rw [← he];exact (hb.cell (p:=⟨b2,_,none⟩) hl).trans h2
 · exact (hb.cell (p:=⟨b2,_,none⟩) hl).trans h3
 · exact (hb.cell (p:=⟨b2,_,none⟩) hl).trans h4
theorem Inp.flow (hI : Inp p K w0) (ho : VOk p) (hb : Below w0.heap.size w0 w) {k : Nat} (hk : k < p.es.length) : ∃ (b3 o3 : Nat) (Ai : Option Addr) (ni ci : Nat),K.A3 = some ⟨b3,o3,none⟩ ∧ b3 < w0.heap.size ∧ b3 < w.heap.size ∧ (k : Int) < (K.n3 : Int) ∧
   w.cell? ⟨b3,o3 + k,none⟩ = some (.slice Ai ni ci) ∧ ni ≤ ci ∧ Xps w0 Ai ni (gl p.fl k) ∧ 0 < ni ∧ ni ≤ 8192:=by
 have hkf : k < p.fl.length:=by rw [ho.len];exact hk
 have hn : k < K.n3:=by rw [← hI.fl.1];exact hkf
 obtain ⟨b3,o3,e3,hl,hc⟩:=hI.fl.2 (by omega)
 obtain ⟨Ai,ni,ci,h1,h3⟩:=hc k hn
 have h4:=ho.fl k hkf
 refine ⟨b3,o3,Ai,ni,ci,e3,hl,Nat.lt_of_lt_of_le hl hb.size,by omega,(hb.cell (p:=⟨b3,_,none⟩) hl).trans h1,hI.fc _ _ _ _ _ _ e3 hn h1,h3,?_,?_⟩
 · have:=h3.1;omega
 · have:=h3.1;omega
theorem xps_at (ho : VOk p) (hb : Below w0.heap.size w0 w) {A : Option Addr} {m k : Nat} {l : List Xp} (hl : ∀ q ∈ l,q ∈ gl p.fl k) (h : Xps w0 A m l) {j : Nat} (hj : j < m) : ∃ (b5 o5 : Nat) (q : Xp) (i o : Nat),A = some ⟨b5,o5,none⟩ ∧ b5 < w0.heap.size ∧ b5 < w.heap.size ∧ l[j]? = some q ∧ q ∈ gl p.fl k ∧ q.i = (i : Int) ∧ q.o = (o : Int) ∧ i < p.F.toNat ∧ o < p.F.toNat ∧
   w.cell? ⟨b5,o5 + j * 5,none⟩ = some (.int .i64 (i : Nat)) ∧ w.cell? ⟨b5,o5 + j * 5 + 1,none⟩ = some (.int .i64 (o : Nat)) ∧ w.cell? ⟨b5,o5 + j * 5 + 2,none⟩ = some (.int .i64 q.k) ∧ w.cell? ⟨b5,o5 + j * 5 + 3,none⟩ = some (.int .i64 q.b) ∧ w.cell? ⟨b5,o5 + j * 5 + 4,none⟩ = some (.int .i64 q.c):=by
 obtain ⟨b5,o5,e,hlt,hc⟩:=h.2 (by omega)
 have hj' : j < l.length:=by rw [h.1];exact hj
 obtain ⟨h1,h2,h3,h4,h5⟩:=hc j hj
 have hm:=hl _ (List.getElem_mem hj')
 have hp:=ho.pair hm
 obtain ⟨i,hi'⟩:=Int.eq_ofNat_of_zero_le hp.1
 obtain ⟨o,ho'⟩:=Int.eq_ofNat_of_zero_le hp.2.2.1
 rw [gx_lt hj'] at h1 h2 h3 h4 h5
 rw [hi'] at h1
 rw [ho'] at h2
 exact ⟨b5,o5,l[j],i,o,e,hlt,Nat.lt_of_lt_of_le hlt hb.size,List.getElem?_eq_getElem hj',hm,hi',ho',by omega,by omega,(hb.cell (p:=⟨b5,_,none⟩) hlt).trans h1,(hb.cell (p:=⟨b5,_,none⟩) hlt).trans h2,(hb.cell (p:=⟨b5,_,none⟩) hlt).trans h3,(hb.cell (p:=⟨b5,_,none⟩) hlt).trans h4,(hb.cell (p:=⟨b5,_,none⟩) hlt).trans h5⟩
theorem sin_at {O : Nat → Prop} {w : World} {A : Option Addr} {n c : Nat} {l : List Nat} (h : SInO O w A n c (ofNats l)) {i : Nat} (hi : i < n) : ∃ b6 o6,A = some ⟨b6,o6,none⟩ ∧ b6 < w.heap.size ∧ ∃ h' : i < l.length,w.cell? ⟨b6,o6 + i,none⟩ = some (.int .i64 (l[i] : Nat)):=by
 obtain ⟨b6,o6,e,hl,hc⟩:=h.1.1.2 (by omega)
 have hi' : i < l.length:=by have:=h.1.1.1;rw [ofNats_len] at this;omega
 have h1:=hc i hi
 rw [gi_ofNats hi'] at h1
 exact ⟨b6,o6,e,hl,hi',h1⟩
end
theorem compD_any (x y : D) (x0 x1 x2 y0 y1 y2 z0 z1 z2 : Int) (hx : x.1 = ⟨x0,x1,x2⟩) (hy : y.1 = ⟨y0,y1,y2⟩) (hz : (comp x y).1 = ⟨z0,z1,z2⟩) (w : World) :
   Calls Tryz.prog 85 #[.agg #[.int .i64 x0,.int .i64 x1,.int .i64 x2],.agg #[.int .i64 y0,.int .i64 y1,.int .i64 y2]] w fun e w' => e = .returned (.agg #[.int .i64 z0,.int .i64 z1,.int .i64 z2]) ∧ Below w.heap.size w w':=by
 have h:=compose_any x0 x1 x2 y0 y1 y2 w
 have hm : (comp x y).1 = Xf.compose x.1 y.1:=rfl
 rw [hx,hy,hz] at hm
 rw [← hm] at h
 exact h
end Go.Proofs.YtincpmdldpakkaaGreatDoor
namespace Go.Df
open Go.RowKit
namespace Iv
open Sp
structure Tw (p : Vb) (N f : Nat) (w : World) (go : Nat) (rw rc : Nat → Nat) (T : Nat → Nat → Nat → D) : Prop where
 glt : go < w.heap.size
 row : ∀ n,n < N → w.cell? ⟨go,n,none⟩ = some (.slice (some ⟨rw n,0,none⟩) (f * f) (rc n))
 cell : ∀ n a d,n < N → a < f → d < f → w.cell? ⟨rw n,(a * f + d) * 3,none⟩ = some (.int .i64 (T n a d).1.k) ∧ w.cell? ⟨rw n,(a * f + d) * 3 + 1,none⟩ = some (.int .i64 (T n a d).1.b) ∧ w.cell? ⟨rw n,(a * f + d) * 3 + 2,none⟩ = some (.int .i64 (T n a d).1.c)
 fr : ∀ n i,n < N → w.frozen? ⟨rw n,i,none⟩ = false
 lt : ∀ n,n < N → rw n < w.heap.size
 inj : ∀ n m,n < N → m < N → rw n = rw m → n = m
 ne : ∀ n,n < N → rw n ≠ go
 top : ∀ n a d,¬ (n < N ∧ a < f ∧ d < f) → T n a d = Iv.top
section
variable {p : Vb} {N f : Nat} {w w' : World} {go : Nat} {rw rc : Nat → Nat} {T : Nat → Nat → Nat → D}
end
end Iv
end Go.Df
namespace Go.Proofs.YtincpmdldpakkaaGreatDoor
open Go.RowKit Go.Df Go.Df.Iv Go.Df.Sp
attribute [local go_sem ↓] Go.wp_at_zero Go.wp_at_succ
end Go.Proofs.YtincpmdldpakkaaGreatDoor
namespace Go.Proofs.YtincpmdldpakkaaGreatDoor
open Go.RowKit Go.Df
attribute [local go_sem ↓] Go.wp_at_zero Go.wp_at_succ
end Go.Proofs.YtincpmdldpakkaaGreatDoor
namespace Go.Proofs.YtincpmdldpakkaaGreatDoor
open Go.RowKit Go.Df Go.Df.Iv Go.Df.Sp
attribute [local go_sem ↓] Go.wp_at_zero Go.wp_at_succ
def RowO (N : Nat) (rw : Nat → Nat) : Nat → Prop:=fun x => ∃ n,n < N ∧ x = rw n
def GetR (p : Vb) (N f : Nat) (go : Nat) (rw rc : Nat → Nat) (w : World) (T : Nat → Nat → Nat → D) (Q : Prop) (e : Ending) (w' : World) : Prop :=
 ∃ b T',e = .returned (.bool b) ∧ Tw p N f w' go rw rc T' ∧ Fx (RowO N rw) (RowO N rw) w w' ∧ Rs p T T' b ∧ (b = false → Q)
structure Rin (p : Vb) (K : Kn) (w0 : World) (N f : Nat) (go : Nat) (rw : Nat → Nat) : Prop where
 inp : Inp p K w0
 ok : VOk p
 fit : VFit p
 eN : N = p.ns.length
 eK : K.n1 = N
 eF : p.F = (f : Int)
 base : ∀ n,n < N → w0.heap.size ≤ rw n
 gob : w0.heap.size ≤ go
end Go.Proofs.YtincpmdldpakkaaGreatDoor
namespace Go.Df.Iv
open Go Go.RowKit Go.Df.Sp
def RC (p : Vb) (k c : Nat) : Prop:=(ge p.es c).k = 2 ∧ (ge p.es c).a = (ge p.es k).c ∧ (gn p.ns (ge p.es c).b.toNat).f = (gn p.ns (ge p.es k).a.toNat).f
def RQ (p : Vb) (T : Nat → Nat → Nat → D) (k c f : Nat) (q u : Xp) : Prop:=∀ a,a < f → le (T (ge p.es k).b.toNat a u.o.toNat) (comp (comp (comp (T (ge p.es c).a.toNat a q.i.toNat) (xd q)) (T (ge p.es k).a.toNat q.o.toNat u.i.toNat)) (xd u))
end Go.Df.Iv
namespace Go.Proofs.YtincpmdldpakkaaGreatDoor
open Go.RowKit Go.Df Go.Df.Iv Go.Df.Sp
attribute [local go_sem ↓] Go.wp_at_zero Go.wp_at_succ
end Go.Proofs.YtincpmdldpakkaaGreatDoor
namespace Go.Df
open Go.RowKit
namespace Iv
open Sp
def DnF (p : Vb) (r a f : Nat) (x : D) (q : Xp) (t : St) : Prop:=∃ y,Sn t (ge p.es r).a.toNat q.o.toNat f y ∧ ∀ u ∈ gl p.fl r,u.i = (f : Int) → le (t.T (ge p.es r).b.toNat a u.o.toNat) (comp (comp (comp x (xd q)) y) (xd u))
def DnR (p : Vb) (k r a : Nat) (x : D) (q : Xp) (t : St) : Prop:=(gn p.ns (ge p.es k).b.toNat).f = (gn p.ns (ge p.es r).a.toNat).f → ∀ u ∈ gl p.fl r,∃ y,Sn t (ge p.es r).a.toNat q.o.toNat u.i.toNat y ∧ le (t.T (ge p.es r).b.toNat a u.o.toNat) (comp (comp (comp x (xd q)) y) (xd u))
def DnQ (p : Vb) (k a : Nat) (x : D) (q : Xp) (t : St) : Prop:=xd q ≠ top → le (t.T (ge p.es k).b.toNat q.o.toNat q.o.toNat) shift ∧ ∀ r ∈ If.retL (pf p) (ge p.es k).a.toNat,DnR p k r a x q t
section
variable {p : Vb} {s t : St} {k r a f : Nat} {x : D} {q : Xp}
theorem DnF.mono (h : DnF p r a f x q s) (g : Gw s t) : DnF p r a f x q t:=by
 obtain ⟨y,h1,h2⟩:=h
 exact ⟨y,h1.mono g,fun u hu hi => le_trans (g.le _ _ _) (h2 u hu hi)⟩
theorem DnR.mono (h : DnR p k r a x q s) (g : Gw s t) : DnR p k r a x q t:=fun hf u hu => by
 obtain ⟨y,h1,h2⟩:=h hf u hu
 exact ⟨y,h1.mono g,le_trans (g.le _ _ _) h2⟩
theorem DnQ.mono (h : DnQ p k a x q s) (g : Gw s t) : DnQ p k a x q t:=fun hq => ⟨le_trans (g.le _ _ _) (h hq).1,fun r hr => ((h hq).2 r hr).mono g⟩
theorem DnR.of (ho : VOk p) (hw : Wf p s) (g : Gw s t) (h : ∀ f ∈ s.ls 1 (ge p.es r).a.toNat q.o.toNat,DnF p r a f x q t) : DnR p k r a x q t:=fun _ u hu => by
 have hi : u.i = (u.i.toNat : Int):=by have:=(ho.pair hu).1;omega
 by_cases hm : u.i.toNat ∈ s.ls 1 (ge p.es r).a.toNat q.o.toNat
 · obtain ⟨y,h1,h2⟩:=h _ hm
   exact ⟨y,h1,h2 u hu hi⟩
 · have h0 : s.T (ge p.es r).a.toNat q.o.toNat u.i.toNat = top:=Classical.byContradiction fun h9 => hm ((hw.l1 _ _ _).2 h9)
   refine ⟨top,?_,?_⟩
   · have:=(Sn.self s (ge p.es r).a.toNat q.o.toNat u.i.toNat).mono g
     rwa [h0] at this
   · rw [comp_top,top_comp];exact le_top _
theorem enter_shift {n d : Nat} (hk : k < p.es.length) (h2 : (ge p.es k).k = 2) (hn : (ge p.es k).a = (n : Int)) (hq : q ∈ gl p.fl k) (hqi : q.i = (d : Int)) (hxq : xd q ≠ top) (hxt : x ≠ top) (hx : ∀ Y,Clo p Y → le (Y n a d) x) : ∀ Y,Clo p Y → le (Y (ge p.es k).b.toNat q.o.toNat q.o.toNat) shift:=fun Y hY => by
 refine hY.call k hk h2 q hq a (fun h0 => hxt ?_) hxq
 have h1:=hx Y hY
 rw [hn,hqi,Int.toNat_natCast,Int.toNat_natCast] at h0
 rw [h0] at h1
 exact top_of_le h1
theorem enter_snd {n d : Nat} (hs : Snd p s.T) (hk : k < p.es.length) (h2 : (ge p.es k).k = 2) (hn : (ge p.es k).a = (n : Int)) (hq : q ∈ gl p.fl k) (hqi : q.i = (d : Int)) (hx : ∀ Y,Clo p Y → le (Y n a d) x) (hr : r < p.es.length) (h3 : (ge p.es r).k = 3 ∨ (ge p.es r).k = 4) (hc : (ge p.es r).c = (n : Int)) (hf : (gn p.ns (ge p.es k).b.toNat).f = (gn p.ns (ge p.es r).a.toNat).f) :
   ∀ Y,Clo p Y → ∀ u ∈ gl p.fl r,u.i = (f : Int) → le (Y (ge p.es r).b.toNat a u.o.toNat) (comp (comp (comp x (xd q)) (s.T (ge p.es r).a.toNat q.o.toNat f)) (xd u)):=fun Y hY u hu hui => by
 have h1:=hY.ret k hk h2 q hq r hr h3 u hu (hn.trans hc.symm) hf a
 rw [hn,hqi,hui,Int.toNat_natCast,Int.toNat_natCast,Int.toNat_natCast] at h1
 exact le_trans h1 (comp_mono (comp_mono (comp_mono (hx Y hY) (le_refl _)) (hs Y hY _ _ _)) (le_refl _))
def LvA (p : Vb) (n k d a' : Nat) (x : D) (q : Xp) (t : St) : Prop:=∃ y,Sn t (ge p.es k).a.toNat a' q.i.toNat y ∧ ∀ r ∈ If.retL (pf p) (ge p.es k).a.toNat,(ge p.es r).a = (n : Int) → ∀ u ∈ gl p.fl r,u.i = (d : Int) → le (t.T (ge p.es r).b.toNat a' u.o.toNat) (comp (comp (comp y (xd q)) x) (xd u))
def LvQ (p : Vb) (n k d : Nat) (x : D) (q : Xp) (t : St) : Prop:=∀ a',LvA p n k d a' x q t
def LvK (p : Vb) (n b d k : Nat) (x : D) (t : St) : Prop:=∀ q ∈ gl p.fl k,q.o = (b : Int) → LvQ p n k d x q t
theorem LvA.mono {n d a' : Nat} (h : LvA p n k d a' x q s) (g : Gw s t) : LvA p n k d a' x q t:=by
 obtain ⟨y,h1,h2⟩:=h
 exact ⟨y,h1.mono g,fun r hr hn u hu hi => le_trans (g.le _ _ _) (h2 r hr hn u hu hi)⟩
theorem LvQ.mono {n d : Nat} (h : LvQ p n k d x q s) (g : Gw s t) : LvQ p n k d x q t:=fun a' => (h a').mono g
theorem LvK.mono {n b d : Nat} (h : LvK p n b d k x s) (g : Gw s t) : LvK p n b d k x t:=fun q hq hqo => (h q hq hqo).mono g
theorem LvQ.of {n d : Nat} (hw : Wf p s) (g : Gw s t) (h : ∀ a' ∈ s.ls 2 (ge p.es k).a.toNat q.i.toNat,LvA p n k d a' x q t) : LvQ p n k d x q t:=fun a' => by
 by_cases hm : a' ∈ s.ls 2 (ge p.es k).a.toNat q.i.toNat
 · exact h a' hm
 · have h0 : s.T (ge p.es k).a.toNat a' q.i.toNat = top:=Classical.byContradiction fun h9 => hm ((hw.l2 _ _ _).2 h9)
   refine ⟨top,?_,fun r hr hn u hu hi => ?_⟩
   · have:=(Sn.self s (ge p.es k).a.toNat a' q.i.toNat).mono g
     rwa [h0] at this
   · rw [top_comp,top_comp,top_comp];exact le_top _
theorem leave_snd {n b d a' : Nat} (hs : Snd p s.T) (hk : k < p.es.length) (h2 : (ge p.es k).k = 2) (hq : q ∈ gl p.fl k) (hqo : q.o = (b : Int)) (hx : ∀ Y,Clo p Y → le (Y n b d) x) (hr : r < p.es.length) (h3 : (ge p.es r).k = 3 ∨ (ge p.es r).k = 4) (hc : (ge p.es k).a = (ge p.es r).c) (hn : (ge p.es r).a = (n : Int)) (hf : (gn p.ns (ge p.es k).b.toNat).f = (gn p.ns n).f) :
   ∀ Y,Clo p Y → ∀ u ∈ gl p.fl r,u.i = (d : Int) → le (Y (ge p.es r).b.toNat a' u.o.toNat) (comp (comp (comp (s.T (ge p.es k).a.toNat a' q.i.toNat) (xd q)) x) (xd u)):=fun Y hY u hu hui => by
 have h1:=hY.ret k hk h2 q hq r hr h3 u hu hc (by rw [hn,Int.toNat_natCast];exact hf) a'
 rw [hn,hqo,hui,Int.toNat_natCast,Int.toNat_natCast,Int.toNat_natCast] at h1
 exact le_trans h1 (comp_mono (comp_mono (comp_mono (hs Y hY _ _ _) (le_refl _)) (hx Y hY)) (le_refl _))
end
end Iv
end Go.Df
namespace Go.Df
open Go.RowKit
namespace Iv
open Sp
structure StE (p : Vb) (k a d : Nat) (x : D) (t : St) : Prop where
 flow : (ge p.es k).k = 1 ∨ (ge p.es k).k = 5 → ∀ q ∈ gl p.fl k,q.i = (d : Int) → le (t.T (ge p.es k).b.toNat a q.o.toNat) (comp x (xd q))
 call : (ge p.es k).k = 2 → ∀ q ∈ gl p.fl k,q.i = (d : Int) → DnQ p k a x q t
theorem StE.mono {p : Vb} {k a d : Nat} {x : D} {s t : St} (h : StE p k a d x s) (g : Gw s t) : StE p k a d x t:=⟨fun hk q hq hi => le_trans (g.le _ _ _) (h.flow hk q hq hi),fun hk q hq hi => (h.call hk q hq hi).mono g⟩
theorem mem_seedV {p : Vb} {n : Nat} {u : Vs} : u ∈ seedV p n ↔ u ∈ p.sd ∧ u.n = (n : Int):=by simp [seedV]
theorem did_of {p : Vb} (ho : VOk p) {n a d : Nat} {x : D} {t : St} (hn : n < p.ns.length) (h1 : a = 0 → d = 0 → ∀ u ∈ seedV p n,le (t.T n 0 u.f.toNat) (sx u)) (h2 : ∀ k ∈ If.outL (pf p) n,StE p k a d x t)
   (h3 : (gn p.ns n).k = 3 ∨ (gn p.ns n).k = 4 → ∀ k ∈ If.callL (pf p) (If.stOf p.ns n),LvK p n a d k x t) : Did p n a d x t:=by
 refine ⟨fun e1 e2 u hu hun => h1 e1 e2 u (mem_seedV.2 ⟨hu,hun⟩),fun k hk hk2 hka q hq hi => (h2 k (If.outL_mem.2 ⟨hk,hka⟩)).flow hk2 q hq hi,fun k hk hk2 hka q hq hi hx => ((h2 k (If.outL_mem.2 ⟨hk,hka⟩)).call hk2 q hq hi hx).1,fun c hc hc2 hca q hq hi hx r hr hr3 hcr hf u hu => ?_,fun r hr hr3 hra c hc hc2 hcr hf q hq hqo a' => ?_⟩
 · refine ((h2 c (If.outL_mem.2 ⟨hc,hca⟩)).call hc2 q hq hi hx).2 r ?_ hf u hu
   have h8:=(ho.edge hc).1
   exact If.retL_mem.2 ⟨hr,hr3,by show (ge p.es r).c = _;rw [← hcr];omega⟩
 · have hkn:=ho.pf.ret (k:=r) hr hr3
   have h6 : (gn p.ns n).k = 3 ∨ (gn p.ns n).k = 4:=by
     have e : (Iv.pf p).es = p.es:=rfl
     have e' : (Iv.pf p).ns = p.ns:=rfl
     rw [e,e',hra,Int.toNat_natCast] at hkn
     exact hkn
   have hcb : (gn p.ns (ge p.es c).b.toNat).k = 1:=(ho.pf.call (k:=c) hc hc2).1
   have hnd : If.NdOk p.ns:=ho.pf.nd
   have hbl : (ge p.es c).b.toNat < p.ns.length:=by have h7:=ho.edge hc;omega
   have h9:=ho.edge hc
   have hst : If.stOf p.ns n = (ge p.es c).b.toNat:=(hnd.start_iff hn hbl hcb).2 (by rw [hf,hra,Int.toNat_natCast])
   obtain ⟨y,hy1,hy2⟩:=h3 h6 c (If.callL_mem.2 ⟨hc,hc2,by rw [hst];show (ge p.es c).b = _;omega⟩) q hq hqo a'
   exact ⟨y,hy1,fun u hu hui => hy2 r (If.retL_mem.2 ⟨hr,hr3,by show (ge p.es r).c = _;rw [← hcr];omega⟩) hra u hu hui⟩
theorem sx_top {u : Vs} (h1 : u.k ≠ 1) (h2 : u.k ≠ 2) : sx u = top:=by unfold sx;rw [if_neg h1,if_neg h2]
theorem sx_const {u : Vs} (h1 : u.k = 1) (h : wrap64 u.v = u.v) : (sx u).1 = ⟨1,0,u.v⟩:=by unfold sx;rw [if_pos h1,dif_pos h];rfl
theorem sx_bot {u : Vs} (h1 : u.k = 2) : (sx u).1 = ⟨4,0,0⟩:=by unfold sx;rw [if_neg (by omega),if_pos h1];rfl
theorem seed_snd {p : Vb} {u : Vs} {n : Nat} {x : D} (hu : u ∈ p.sd) (hn : u.n = (n : Int)) (hx : x ≠ top) (hs : ∀ Y,Clo p Y → le (Y n 0 0) x) : ∀ Y,Clo p Y → le (Y n 0 u.f.toNat) (sx u):=fun Y hY => by
 have h1:=hY.seed u hu
 rw [hn,Int.toNat_natCast] at h1
 exact h1 (fun h0 => hx (top_of_le (h0 ▸ hs Y hY)))
end Iv
end Go.Df
namespace Go.Proofs.YtincpmdldpakkaaGreatDoor
open Go.RowKit Go.Df Go.Df.Iv Go.Df.Sp
attribute [local go_sem ↓] Go.wp_at_zero Go.wp_at_succ
end Go.Proofs.YtincpmdldpakkaaGreatDoor
namespace Go.Df
open Go.RowKit
theorem least_exists (P : Nat → Prop) (h : ∃ m,P m) : ∃ m,P m ∧ ∀ m',P m' → m ≤ m':=by
 have hk : ∀ k m,m ≤ k → P m → ∃ m,P m ∧ ∀ m',P m' → m ≤ m':=by
   intro k
   induction k with
   | zero => intro m hm hp; obtain rfl : m = 0 := by omega
             exact ⟨0,hp,fun _ _ => Nat.zero_le _⟩
   | succ k ih =>
     intro m hm hp
     by_cases hx : ∃ m',P m' ∧ m' < m
     · obtain ⟨m',h1,h2⟩:=hx
       exact ih m' (by omega) h1
     · exact ⟨m,hp,fun m' h1 => Nat.le_of_not_lt fun h2 => hx ⟨m',h1,h2⟩⟩
 obtain ⟨m,hm⟩:=h
 exact hk m m (Nat.le_refl _) hm
open Classical in
/-- The least number of which P holds in a world. -/
noncomputable def leastM (P : Nat → World → Prop) (w : World) : Nat:=if h : ∃ m,P m w then Classical.choose (least_exists (fun m => P m w) h) else 0
theorem leastM_spec {P : Nat → World → Prop} {w : World} (h : ∃ m,P m w) : P (leastM P w) w:=by
 unfold leastM
 rw [dif_pos h]
 exact (Classical.choose_spec (least_exists (fun m => P m w) h)).1
theorem leastM_le {P : Nat → World → Prop} {w : World} {m : Nat} (h : P m w) : leastM P w ≤ m:=by
 unfold leastM
 rw [dif_pos ⟨m,h⟩]
 exact (Classical.choose_spec (least_exists (fun m => P m w) ⟨m,h⟩)).2 m h
end Go.Df
namespace Go.Proofs.YtincpmdldpakkaaGreatDoor
open Go.RowKit Go.Df Go.Df.Iv Go.Df.Sp
theorem pop_some {rA qA : Option Addr} {rc qn qc n : Nat} {r : List Nat} {N : Nat} (w : World) (hr : SIn w rA 0 rc []) (hq : SIn w qA qn qc (ofNats (n :: r))) (hd : (n :: r).Nodup) (hN : ∀ x ∈ n :: r,x < N) (h8 : N ≤ 8192) :
   Calls Tryz.prog 137 #[.agg #[.slice rA 0 rc,.slice qA qn qc]] w (GetPop w (n : Int) [] (ofNats r) true):=by
 have hc:=wl_ok hd hN h8
 have hl : qn = r.length + 1:=by have:=hq.1.1;rw [ofNats_len] at this;simpa using this.symm
 have e1 : gi (ofNats (n :: r)) 0 = (n : Int):=by rw [gi_ofNats (by simp)];rfl
 have e2 : (ofNats (n :: r)).drop 1 = ofNats r:=by simp [ofNats]
 have key : Calls Tryz.prog 137 #[.agg #[.slice rA 0 rc,.slice qA qn qc]] w (GetPop w (gi (ofNats (n :: r)) 0) [] ((ofNats (n :: r)).drop 1) true):=by
   by_cases h2 : 2 ≤ qn
   · exact pop_two rA qA 0 rc qn qc [] (ofNats (n :: r)) w hr.1 hq.1 hc h2 hq.2.1 (fun _ => rfl)
   · obtain rfl : qn = 1:=by omega
     exact pop_one rA qA 0 rc qc [] (ofNats (n :: r)) w hr.1 hq.1 hc hq.2.1 (fun _ => rfl)
 rw [e1,e2] at key
 exact key
structure Dr (p : Vb) (J : Nat → List (Nat × Nat) → St → Prop) : Prop where
 wf : ∀ n r s,J n r s → Wf p s
 pop : ∀ s n r,J 0 [] s → s.q = n :: r → J n (s.pd n) (popS s n r)
 rest : ∀ n s,J n [] s → J 0 [] s
def GetD (p : Vb) (K : Kn) (w0 : World) (b : Nat) (O : Nat → Prop) (G : Gh) (w : World) (s : St) (J : St → Prop) (e : Ending) (w' : World) : Prop:=∃ s' O' G',e = .returned (.tuple #[]) ∧ Mem p K w0 b O' G' w' s' ∧ Fy K O O' G G' s s' w w' ∧ J s' ∧ mea p s' ≤ mea p s
end Go.Proofs.YtincpmdldpakkaaGreatDoor
namespace Go.Df
open Go.RowKit
namespace Iv
open Sp
structure Vw (N f : Nat) (w : World) (go : Nat) (rw rc : Nat → Nat) (V : Nat → Nat → U) : Prop where
 glt : go < w.heap.size
 row : ∀ n,n < N → w.cell? ⟨go,n,none⟩ = some (.slice (some ⟨rw n,0,none⟩) f (rc n))
 cell : ∀ n a,n < N → a < f → w.cell? ⟨rw n,a * 2,none⟩ = some (.int .i64 (V n a).1.k) ∧ w.cell? ⟨rw n,a * 2 + 1,none⟩ = some (.int .i64 (V n a).1.n)
 fr : ∀ n i,n < N → w.frozen? ⟨rw n,i,none⟩ = false
 lt : ∀ n,n < N → rw n < w.heap.size
 inj : ∀ n m,n < N → m < N → rw n = rw m → n = m
 ne : ∀ n,n < N → rw n ≠ go
section
variable {N f : Nat} {w w' : World} {go : Nat} {rw rc : Nat → Nat} {V : Nat → Nat → U}
theorem Vw.kept (h : Vw N f w go rw rc V) {X : List Nat} (hk : Kept X w w') (hg : go ∉ X) (hr : ∀ n,n < N → rw n ∉ X) : Vw N f w' go rw rc V :=
 ⟨Nat.lt_of_lt_of_le h.glt hk.size,fun n hn => (hk.cell go n h.glt hg).trans (h.row n hn),fun n a hn ha => ⟨(hk.cell _ _ (h.lt n hn) (hr n hn)).trans (h.cell n a hn ha).1,(hk.cell _ _ (h.lt n hn) (hr n hn)).trans (h.cell n a hn ha).2⟩,
   fun n i hn => (hk.frozen _ _ (h.lt n hn) (hr n hn)).trans (h.fr n i hn),fun n hn => Nat.lt_of_lt_of_le (h.lt n hn) hk.size,h.inj,h.ne⟩
theorem Vw.keep (h : Vw N f w go rw rc V) (hk : Kept [] w w') : Vw N f w' go rw rc V:=h.kept hk (by simp) (by simp)
end
end Iv
end Go.Df
namespace Go.Df
open Go.RowKit
def EmV (z : Value) (base : Nat) (tb : TypeId) (m : Nat) (bs : Nat → Nat) (n : Nat) (w : World) : Prop :=
 (∀ x,x < n → base ≤ bs x ∧ Tag w (bs x) tb ∧ ∀ i,i < m → w.cell? ⟨bs x,i,none⟩ = some z) ∧ ∀ x y,x < n → y < n → bs x = bs y → x = y
theorem EmV.kept {z : Value} {base : Nat} {tb : TypeId} {m n : Nat} {bs : Nat → Nat} {X : List Nat} {w w' : World} (h : EmV z base tb m bs n w) (hk : Kept X w w') (hX : ∀ x,x < n → bs x ∉ X) : EmV z base tb m bs n w' :=
 ⟨fun x hx => by
   obtain ⟨h1,h2,h3⟩:=h.1 x hx
   exact ⟨h1,h2.same (hk.block _ h2.lt (hX x hx)),fun i hi => (hk.cell _ _ h2.lt (hX x hx)).trans (h3 i hi)⟩,h.2⟩
def updN (f : Nat → Nat) (n x : Nat) : Nat → Nat:=fun i => if i = n then x else f i
theorem EmV.snoc {z : Value} {base : Nat} {tb : TypeId} {m n g : Nat} {bs : Nat → Nat} {w : World} (h : EmV z base tb m bs n w) (hg : base ≤ g) (ht : Tag w g tb) (hc : ∀ i,i < m → w.cell? ⟨g,i,none⟩ = some z) (hn : ∀ x,x < n → bs x ≠ g) : EmV z base tb m (updN bs n g) (n + 1) w:=by
 refine ⟨fun x hx => ?_,fun x y hx hy e => ?_⟩
 · unfold updN
   by_cases e : x = n
   · rw [if_pos e];exact ⟨hg,ht,hc⟩
   · rw [if_neg e];exact h.1 x (by omega)
 · unfold updN at e
   by_cases e1 : x = n
   · by_cases e2 : y = n
     · omega
     · rw [if_pos e1,if_neg e2] at e;exact absurd e.symm (hn y (by omega))
   · by_cases e2 : y = n
     · rw [if_neg e1,if_pos e2] at e;exact absurd e (hn x (by omega))
     · rw [if_neg e1,if_neg e2] at e;exact h.2 x y (by omega) (by omega) e
theorem rows_snoc (bs rc : Nat → Nat) (m n g c : Nat) : ((List.range n).map fun x => Value.slice (some ⟨bs x,0,none⟩) m (rc x)) ++ [Value.slice (some ⟨g,0,none⟩) m c] = (List.range (n + 1)).map fun x => Value.slice (some ⟨updN bs n g x,0,none⟩) m (updN rc n c x):=by
 rw [List.range_succ,List.map_append]
 congr 1
 · refine List.map_congr_left fun x hx => ?_
   have : x ≠ n:=by have:=List.mem_range.1 hx;omega
   simp [updN,this]
 · simp [updN]
def truthOf : Value → Nat | .bool true => 1 | _ => 0
namespace Iv
open Sp
structure EdgeR (p : Vb) (T : Nat → Nat → Nat → D) (f k : Nat) : Prop where
 flow : (ge p.es k).k = 1 ∨ (ge p.es k).k = 5 → ∀ q ∈ gl p.fl k,∀ a,a < f → le (T (ge p.es k).b.toNat a q.o.toNat) (comp (T (ge p.es k).a.toNat a q.i.toNat) (xd q))
 call : (ge p.es k).k = 2 → ∀ q ∈ gl p.fl k,∀ a,a < f → T (ge p.es k).a.toNat a q.i.toNat ≠ top → xd q ≠ top → le (T (ge p.es k).b.toNat q.o.toNat q.o.toNat) shift
 ret : (ge p.es k).k = 3 ∨ (ge p.es k).k = 4 → ∀ c,c < p.es.length → RC p k c → ∀ q ∈ gl p.fl c,∀ u ∈ gl p.fl k,RQ p T k c f q u
end Iv
end Go.Df
