/- Texts: Qw Bj. -/
import Derived.Test.YtincpmdldpakkaaGreatDoorMt22
import Derived.Test.YtincpmdldpakkaaGreatDoorMt20
import Derived.Test.YtincpmdldpakkaaGreatDoorMt18
import Derived.Test.YtincpmdldpakkaaGreatDoorMt15
namespace Go.Proofs.YtincpmdldpakkaaGreatDoor
open Go.RowKit Go.Df
attribute [local go_sem ↓] Go.wp_at_zero Go.wp_at_succ
theorem Wl.errs_zero {r l : List Int} (n : Nat) : ∀ k,Wl.errs r l k n = 0 → ∀ j,k ≤ j → j < k + n → Wl.err r l j = 0:=by
 induction n with
 | zero => intro k _ j h1 h2;omega
 | succ n ih =>
   intro k h j h1 h2
   rw [Wl.errs] at h
   by_cases e : Wl.err r l k = 0
   · rw [if_pos e] at h
     rcases Nat.eq_or_lt_of_le h1 with rfl | h3
     · exact e
     · exact ih (k + 1) h j (by omega) (by omega)
   · rw [if_neg e] at h;exact absurd h e
theorem Wl.chk_err {r l : List Int} (h : Wl.chk r l = 0) {j : Nat} (hj : j < l.length) : Wl.err r l j = 0:=by
 rw [Wl.chk] at h
 split at h
 · cases h
 · exact Wl.errs_zero _ 0 h j (Nat.zero_le _) (by omega)
theorem Wl.chk_allowed {r l : List Int} (h : Wl.chk r l = 0) {j : Nat} (hj : j < l.length) : Wl.allowed r.length (gi l j) = true:=by
 have:=Wl.chk_err h hj
 unfold Wl.err at this
 by_cases e : Wl.allowed r.length (gi l j) = false
 · rw [if_pos e] at this;cases this
 · simpa using e
def Wl.placeD (r l : List Int) (x : Int) : Nat → Nat
 | 0 => 0
 | k + 1 => if Wl.before r x (gi l k) = true then Wl.placeD r l x k else k + 1
def Wl.place (r l : List Int) (x : Int) : Nat:=if 0 < r.length then Wl.placeD r l x l.length else l.length
theorem Wl.placeD_le (r l : List Int) (x : Int) (k : Nat) : Wl.placeD r l x k ≤ k:=by
 induction k with
 | zero => exact Nat.le_refl _
 | succ k ih => rw [Wl.placeD];split <;> omega
theorem Wl.place_le (r l : List Int) (x : Int) : Wl.place r l x ≤ l.length:=by
 unfold Wl.place;split
 · exact Wl.placeD_le _ _ _ _
 · exact Nat.le_refl _
set_option maxHeartbeats 1000000 in
theorem push_new (A1 A2 : Option Addr) (n1 c1 n2 c2 : Nat) (r l : List Int) (x : Int) (w : World) (hr : Ints w A1 n1 r) (hl : Ints w A2 n2 l) (hA1 : A1 = none → n1 = 0) (hA2 : A2 = none → n2 = 0) (h : Wl.perr r l x = 0) (hm : x ∉ l) :
   Calls Tryz.prog 180 #[.agg #[.slice A1 n1 c1,.slice A2 n2 c2],.int .i64 x] w (GetQE w r (Wl.ins l (Wl.place r l x) x) 0):=by
 obtain ⟨hz,ha,s1,s2,s3⟩:=Wl.perr_ok h
 have s4:=s3 hm
 have HI : Hid (∀ j,j < n2 → Wl.allowed n1 (gi l j) = true):=by
   intro j hj;rw [← hr.1];exact Wl.chk_allowed hz (by rw [hl.1];exact hj)
 rw [hl.1] at s4
 clear s3
 rw [hr.1] at ha s1
 rw [hl.1] at s2
 have HZ:=Lib.hid hz
 have HA:=Lib.hid ha
 have HA1:=Lib.hid hA1
 have HA2:=Lib.hid hA2
 have HM : Hid (decide (x ∈ l) = false):=Lib.hid (by simpa using hm)
 have HR:=Lib.hid hr
 have Hr:=Lib.hid hr.1
 have Hl:=Lib.hid hl.1
 have HL:=Lib.hid hl
 clear hz ha hA1 hA2 hm h hr hl
 go_enter Tryz.func180,Tryz.ntmps180
 go_upto_region 1 with fail
 refine wp_named (fun W => ∃ b0 b1,w.heap.size = b0 ∧ w.heap.size + 1 = b1 ∧ Blk W b0 [.slice A1 n1 c1,.slice A2 n2 c2] ∧ Blk W b1 [.slice none 0 0,.slice none 0 0] ∧ Below w.heap.size w W) ⟨_,_,rfl,rfl,?_,?_,?_⟩ ?_
 · exact (Blk.new _ _ _ _ (by first | rfl | simp)).alloc _
 · exact kbn
 · go_grown
 rintro W ⟨b0,b1,e0,e1,B0,B1,hB⟩
 rw [e1,e0]
 have G0 : w.heap.size ≤ b0:=by omega
 have n01 : b0 ≠ b1:=by omega
 have G1 : w.heap.size ≤ b1:=by omega
 have n10 : b1 ≠ b0:=by omega
 clear e0 e1
 have ⟨L0,C0,F0⟩:=B0
 have ⟨L1,C1,F1⟩:=B1
 go_wp2_with fail
 refine (wlck_any _ _ _ _ _ _ r l _ (HR.out.later hB) (HL.out.later hB)).mono ?_
 rintro e w1 ⟨rfl,hb1⟩
 have hk1 : Kept [] W w1:=Kept.call (Kept.refl _ _) hb1
 have ⟨hc1,hf1,hg1⟩:=hk1.rules
 rw [HZ.out]
 go_wp2_with fail
 refine (allowed_any _ _ _ _ _ _ _ _).mono ?_
 rintro e w2 ⟨rfl,hb2⟩
 rw [HA.out]
 have hk2 : Kept [] W w2:=Kept.call hk1 hb2
 have ⟨hc2,hf2,hg2⟩:=hk2.rules
 go_wp2_with fail
 refine (contains_any _ _ _ l _ _ ((HL.out.later hB).kept hk2) (by omega)).mono ?_
 rintro e w3 ⟨rfl,rfl⟩
 rw [HM.out]
 have BW0:=hk2.blk (by simp) B0
 have BW1:=hk2.blk (by simp) B1
 have HRV:=Lib.hid ((HR.out.later hB).kept hk2)
 have HLV:=Lib.hid ((HL.out.later hB).kept hk2)
 have hBV:=hk2.below hB hB.size (by simp)
 have hWV:=hk2.size
 clear hc1 hf1 hg1 hc2 hf2 hg2 B0 B1 L0 C0 F0 L1 C1 F1 hk1 hk2 hb1 hb2
 have ⟨L0,C0,F0⟩:=BW0
 have ⟨L1,C1,F1⟩:=BW1
 have hd : decide ((8192 : Int) ≤ n2) = false:=by simp;omega
 go_upto_region 9 with fail
 go_cut [8] (fun s wx => ∃ (g : Nat) (A3 A4 : Option Addr) (c3 c4 : Nat),s = .pointer (some ⟨g,0,none⟩) ∧ Blk wx g [.slice A3 n1 c3,.slice A4 n2 c4] ∧ wx.ownsRow w2.heap.size 3 1 (.slice A3 n1 c3) n1 (r.map (Value.int .i64)) ∧ wx.ownsRow w2.heap.size 3 1 (.slice A4 n2 c4) n2 (l.map (Value.int .i64)) ∧ Hid (∀ h,(Value.slice A4 n2 c4).ownBlock = some h → h ≠ g) ∧ Hid (∀ h,(Value.slice A3 n1 c3).ownBlock = some h → h ≠ g ∧ ∀ k,(Value.slice A4 n2 c4).ownBlock = some k → h ≠ k) ∧ Kept [] w2 wx ∧ w2.heap.size ≤ g)
 case first =>
   go_region_held3 (fun w' => SX0 w2 w') (exact kp0)
     (first | (go_at_call 179;((with_reducible refine (clone_any A1 n1 c1 r _ (HRV.out.kept (by first | exact (by assumption : SX0 w2 _).1)) (by omega) HA1.out).mono ?_));rintro e w3 ⟨v1,rfl,hown1,hb3⟩;obtain ⟨A3,c3,rfl⟩:=own_slice hown1;have ho1:=own_rng hown1;obtain ⟨hc3,hf3,hg3⟩:=bcell hb3;have hz3:=hb3.size;try simp at hz3) | (go_at_call 179;((with_reducible refine (clone_any A2 n2 c2 l _ (HLV.out.kept (by first | exact (by assumption : SX0 w2 _).1)) (by omega) HA2.out).mono ?_));rintro e w4 ⟨v2,rfl,hown2,hb4⟩;obtain ⟨A4,c4,rfl⟩:=own_slice hown2;have ho2:=own_rng hown2;obtain ⟨hc4,hf4,hg4⟩:=bcell hb4;have hz4:=hb4.size;try simp at hz4))
   all_goals
     go_wp2_with fail
     go_meet
     refine ⟨_,A3,A4,c3,c4,rfl,?_,?_,?_,?_,?_,?_,?_⟩
     · (exact kpb)
     · refine own_base (base:=?_) ?_ ?_
       rotate_left
       · repeat' first | (with_reducible assumption) | (with_reducible refine own_later ?_ (by assumption)) | (with_reducible refine own_alloc ?_ _) | (with_reducible refine own_drew ?_) | (with_reducible refine own_set ?_ _ _ _ ?_) | (intro g hg;have:=(ho1.out g hg);first | omega | (simp at this;omega))
       · first | (simp;done) | omega | (simp;omega)
     · refine own_base (base:=?_) ?_ ?_
       rotate_left
       · repeat' first | (with_reducible assumption) | (with_reducible refine own_later ?_ (by assumption)) | (with_reducible refine own_alloc ?_ _) | (with_reducible refine own_drew ?_) | (with_reducible refine own_set ?_ _ _ _ ?_) | (intro g hg;have:=(ho2.out g hg);first | omega | (simp at this;omega))
       · first | (simp;done) | omega | (simp;omega)
     · exact Lib.hid (fun h hh => by have:=ho2.out h hh;first | omega | (simp at this;omega))
     · refine Lib.hid (fun h hh => ?_)
       have t1:=ho1.out h hh
       refine ⟨?_,fun k hk => ?_⟩
       · first | omega | (simp at t1;omega)
       · have t2:=ho2.out k hk
         first | omega | (simp at t1 t2;omega)
     · (exact kpt0)
     · first | (simp;done) | omega | (simp;omega)
 case rest =>
   obtain ⟨g,A3,A4,c3,c4,rfl,Bg,hown1,hown2,hne4,hne3,kc,Hg⟩:=hcut
   have ⟨Lg,Cg,Fg⟩:=Bg
   have ⟨L0',C0',F0'⟩:=kc.blk (by simp) BW0
   have BX1:=kc.blk (by simp) BW1
   have ⟨L1',C1',F1'⟩:=BX1
   have hne : b1 ≠ g:=by omega
   clear C0 F0 C1 F1
   obtain ⟨A3',c3',hv3,hi3,hge3⟩:=SIn.of_own hown1
   obtain ⟨A4',c4',hv4,hi4,hge4⟩:=SIn.of_own hown2
   injection hv3 with e1 _ e2
   injection hv4 with e3 _ e4
   subst e1 e2 e3 e4
   have HI3:=Lib.hid hi3
   have HI4:=Lib.hid hi4
   have HG3:=Lib.hid hge3
   have HG4:=Lib.hid hge4
   have HO2:=Lib.hid hown2
   clear hown1 hown2 hi3 hi4 hge3 hge4
   by_cases hz : n1 = 0
   · have z1 : decide (0 < n1) = false:=by simp;omega
     have z2 : decide ((0 : Int) < (n1 : Int)) = false:=by simp;omega
     have hpl : Hid (Wl.place r l x = n2):=by
       show Wl.place r l x = n2
       unfold Wl.place;rw [Hr.out,if_neg (by omega),Hl.out]
     clear hz
     go_wp2_with fail
     rw [show ((n2 : Nat) : Int) = ((Wl.place r l x : Nat) : Int) by rw [hpl.out]]
     refine (insert_own w2.heap.size n2 (Wl.place r l x) _ _ l x _ (own_alloc HO2.out _) (by rw [← Hl.out];exact Wl.place_le r l x) (by omega) (heap_alloc_new _ _) (fun h hh => by have:=own_lt HO2.out hh;omega) (by simp;omega)).mono ?_
     rintro e w5 ⟨A5,n5,c5,rfl,hi5,hge5,hk5⟩
     have HI5:=Lib.hid hi5
     have HG5:=Lib.hid hge5
     have hXg : g ∉ (Value.slice A4 n2 c4).ownBlock.toList:=fun hh => hne4.out g (by simpa using hh) rfl
     have hXb : b1 ∉ (Value.slice A4 n2 c4).ownBlock.toList:=fun hh => by have:=own_ge HO2.out (g:=b1) (by simpa using hh);omega
     have BG5:=hk5.blk hXg (Bg.alloc _)
     have BB5:=hk5.blk hXb (BX1.alloc _)
     have ⟨Lg5,Cg5,Fg5⟩:=BG5
     have ⟨Lb5,Cb5,Fb5⟩:=BB5
     have HI35:=Lib.hid (HI3.out)
     clear hi5 hge5 Cg Fg C0' F0' C1' F1'
     go_wp2_with fail
     have hkf:=((((Kept.refl [g,b1] w5).set g 1 (.slice A5 n5 c5) (.inl (by simp))).set b1 0 (.slice A3 n1 c3) (.inl (by simp))).set b1 1 (.slice A5 n5 c5) (.inl (by simp)))
     have ⟨L1f,C1f,F1f⟩:=(Blk.set2 (v0:=.slice A3 n1 c3) (v1:=.slice A5 n5 c5) ((BB5.setOther g 1 (.slice A5 n5 c5) (Ne.symm hne)).n rfl))
     refine bodyPost_ret (by simp [results,Tryz.results180,go_sem,C1f];rfl) rfl ?_
     refine ⟨_,_,_,_,_,_,rfl,((HI3.out.later ((Below.refl _ _).alloc (Nat.le_refl _) _)).keptX hk5 (fun _ a ha hh => ?_)).keptX hkf (fun _ a ha => ?_),HI5.out.keptX hkf (fun _ a ha => ?_),?_,fun a ha => ?_,fun a ha => ?_⟩
     · subst ha;exact (hne3.out a.block rfl).2 a.block (by simpa using hh) rfl
     · subst ha
       have t1:=(hne3.out a.block rfl).1
       have:=HG3.out a rfl
       simp;omega
     · obtain ⟨t5,t6⟩:=HG5.out a ha
       rcases t6 with t6 | t6
       · have:=hne4.out _ t6
         simp;omega
       · have h2:=kc.size
         simp at t6;simp;omega
     · refine Kept.below (X:=[g,b1]) (Kept.below (X:=(Value.slice A4 n2 c4).ownBlock.toList) (Kept.below (X:=[]) (kc.below hBV hBV.size (by simp)) (Nat.le_trans hBV.size kc.size) (by simp) ((Kept.refl _ _).alloc _)) ?_ ?_ hk5) ?_ ?_ hkf
       · have h1:=hBV.size;have h2:=kc.size;simp;omega
       · intro y hy;have:=own_ge HO2.out (g:=y) (by simpa using hy);have h1:=hBV.size;omega
       · have h1:=hBV.size;have h2:=kc.size;have h3:=hk5.size;simp at h3;omega
       · have h1:=hBV.size;simp;omega
     · have t1:=HG3.out a ha;have t2:=hBV.size;have t3:=hkf.size;have t4:=hk5.size;have t5:=kc.size;simp at t4;first | omega | (have t7:=HKR.out.size;omega)
     · have t1:=HG5.out a ha;have t2:=hBV.size;have t3:=hkf.size;have t5:=HI5.out.inW (by simp [Wl.ins]) ha;omega
   · have z1 : decide (0 < n1) = true:=by simp;omega
     have z2 : decide ((0 : Int) < (n1 : Int)) = true:=by simp;omega
     have z3 : 0 < n1:=by omega
     clear hz
     go_wp2_with fail
     go_loopw [9] (fun p wr => ∃ k q : Nat,k ≤ n2 ∧ p = .int .i64 k ∧ wr = wc.drewN q ∧ Hid (Wl.placeD r l x n2 = Wl.placeD r l x k)) (fun p _ => (intOf p).toNat)
     case atStart => exact ⟨n2,0,Nat.le_refl _,rfl,rfl,Lib.hid rfl⟩
     case round =>
       obtain ⟨k,q,hk,rfl,hwr,hpk⟩:=hrel
       have BgR : Blk wr g [.slice A3 n1 c3,.slice A4 n2 c4]:=by rw [hwr];exact Bg
       have BbR : Blk wr b1 [.slice none 0 0,.slice none 0 0]:=by rw [hwr];exact BX1
       have HR3 : Hid (SIn wr A3 n1 c3 r):=by rw [hwr];exact HI3.out
       have HR4 : Hid (SIn wr A4 n2 c4 l):=by rw [hwr];exact HI4.out
       have HOR : Hid (wr.ownsRow w2.heap.size 3 1 (.slice A4 n2 c4) n2 (l.map (Value.int .i64))):=by rw [hwr];exact HO2.out
       have HKR : Hid (Kept [] wc wr):=by rw [hwr];exact (Kept.refl _ _).drewN _
       have HW:=Lib.hid hwr
       clear hwr Bg Lg Cg Fg L0' C0' F0' BX1 L1' C1' F1' HI4 HO2
       have ⟨Lg,Cg,Fg⟩:=BgR
       have ⟨L1',C1',F1'⟩:=BbR
       by_cases hk0 : k = 0
       · have hpl : Hid (Wl.place r l x = k) := by
           show Wl.place r l x = k
           unfold Wl.place;rw [Hr.out,if_pos z3,Hl.out,hpk.out,hk0];rfl
         have y1 : decide (0 < k) = false:=by simp;omega
         have y2 : decide ((0 : Int) < (k : Int)) = false:=by simp;omega
         clear hk0
         go_wp2_with fail
         go_quiet (fail)
         go_wp2_with fail
         rw [show ((k : Nat) : Int) = ((Wl.place r l x : Nat) : Int) by rw [hpl.out]]
         refine (insert_own w2.heap.size n2 (Wl.place r l x) _ _ l x _ (own_alloc (own_drewN HOR.out _) _) (by rw [← Hl.out];exact Wl.place_le r l x) (by omega) (heap_alloc_new _ _) (fun h hh => by have:=own_lt HOR.out hh;first | omega | (simp;omega)) (by have h7:=HKR.out.size;have h8:=kc.size;simp;omega)).mono ?_
         rintro e w5 ⟨A5,n5,c5,rfl,hi5,hge5,hk5⟩
         have HI5:=Lib.hid hi5
         have HG5:=Lib.hid hge5
         have hXg : g ∉ (Value.slice A4 n2 c4).ownBlock.toList:=fun hh => hne4.out g (by simpa using hh) rfl
         have hXb : b1 ∉ (Value.slice A4 n2 c4).ownBlock.toList:=fun hh => by have:=own_ge HOR.out (g:=b1) (by simpa using hh);omega
         have BG5:=hk5.blk hXg ((BgR.drewN _).alloc _)
         have BB5:=hk5.blk hXb ((BbR.drewN _).alloc _)
         have ⟨Lg5,Cg5,Fg5⟩:=BG5
         have ⟨Lb5,Cb5,Fb5⟩:=BB5
         have HI35:=Lib.hid (HR3.out)
         clear hi5 hge5 Cg Fg C1' F1'
         go_wp2_with fail
         have hkf:=((((Kept.refl [g,b1] w5).set g 1 (.slice A5 n5 c5) (.inl (by simp))).set b1 0 (.slice A3 n1 c3) (.inl (by simp))).set b1 1 (.slice A5 n5 c5) (.inl (by simp)))
         have ⟨L1f,C1f,F1f⟩:=(Blk.set2 (v0:=.slice A3 n1 c3) (v1:=.slice A5 n5 c5) ((BB5.setOther g 1 (.slice A5 n5 c5) (Ne.symm hne)).n rfl))
         refine bodyPost_ret (by simp [results,Tryz.results180,go_sem,C1f];rfl) rfl ?_
         refine ⟨_,_,_,_,_,_,rfl,(((HR3.out.drewN _).later ((Below.refl _ _).alloc (Nat.le_refl _) _)).keptX hk5 (fun _ a ha hh => ?_)).keptX hkf (fun _ a ha => ?_),HI5.out.keptX hkf (fun _ a ha => ?_),?_,fun a ha => ?_,fun a ha => ?_⟩
         · subst ha;exact (hne3.out a.block rfl).2 a.block (by simpa using hh) rfl
         · subst ha
           have t1:=(hne3.out a.block rfl).1
           have:=HG3.out a rfl
           simp;omega
         · obtain ⟨t5,t6⟩:=HG5.out a ha
           rcases t6 with t6 | t6
           · have:=hne4.out _ t6
             simp;omega
           · have h2:=kc.size
             have h7:=HKR.out.size
             simp at t6;simp;omega
         · refine Kept.below (X:=[g,b1]) (Kept.below (X:=(Value.slice A4 n2 c4).ownBlock.toList) (Kept.below (X:=[]) (kc.below hBV hBV.size (by simp)) (Nat.le_trans hBV.size kc.size) (by simp) (((HKR.out).drewN _).alloc _)) ?_ ?_ hk5) ?_ ?_ hkf
           · have h1:=hBV.size;have h2:=kc.size;have h7:=HKR.out.size;simp;omega
           · intro y hy;have:=own_ge HOR.out (g:=y) (by simpa using hy);have h1:=hBV.size;omega
           · have h1:=hBV.size;have h2:=kc.size;have h3:=hk5.size;have h7:=HKR.out.size;simp at h3;omega
           · have h1:=hBV.size;simp;omega
         · have t1:=HG3.out a ha;have t2:=hBV.size;have t3:=hkf.size;have t4:=hk5.size;have t5:=kc.size;simp at t4;first | omega | (have t7:=HKR.out.size;omega)
         · have t1:=HG5.out a ha;have t2:=hBV.size;have t3:=hkf.size;have t5:=HI5.out.inW (by simp [Wl.ins]) ha;omega
       · have y1 : decide (0 < k) = true:=by simp;omega
         have y2 : decide ((0 : Int) < (k : Int)) = true:=by simp;omega
         have y3 : 0 < k:=by omega
         have hal:=HI.out (k - 1) (by omega)
         obtain ⟨p0,p1,p2⟩:=Wl.allowed_lt hal s1
         obtain ⟨q0,q1,q2⟩:=Wl.allowed_lt HA.out s1
         have p3:=p2 z3
         have q3:=q2 z3
         obtain ⟨b4,o4,e4,l4,c4'⟩:=HR4.out.1.at_ (by omega)
         subst e4
         have hcell : wr.cell? ⟨b4,o4 + (k - 1),none⟩ = some (.int .i64 (gi l (k - 1))):=c4' (k - 1) (by omega)
         clear hk0 hal p2 q2 c4'
         by_cases hbf : Wl.before r x (gi l (k - 1)) = true
         · have hpk' : Hid (Wl.placeD r l x n2 = Wl.placeD r l x (k - 1)) := by
             show Wl.placeD r l x n2 = _
             rw [hpk.out]
             obtain ⟨m,rfl⟩ : ∃ m,k = m + 1:=⟨k - 1,by omega⟩
             rw [Wl.placeD,if_pos (by simpa using hbf)];rfl
           go_wp2_with fail
           go_quiet ((go_at_call 200;exact Calls.quiet_of (before_q _ _ _ r _ _ _ (show Ints (World.drewN wr _) A3 n1 r from HR3.out.1) (by omega) (by omega) (by omega) (by omega))))
           go_wp2_with fail
           exact ⟨⟨k - 1,q + nq,by omega,by go_num,by rw [HW.out];exact World.drewN_drewN _ _ _,hpk'⟩,by simp [intOf];omega⟩
         · rw [Bool.not_eq_true] at hbf
           have hpl : Hid (Wl.place r l x = k):=by
             show Wl.place r l x = k
             unfold Wl.place;rw [Hr.out,if_pos z3,Hl.out,hpk.out]
             obtain ⟨m,rfl⟩ : ∃ m,k = m + 1:=⟨k - 1,by omega⟩
             rw [Wl.placeD,if_neg (by simpa using hbf)]
           go_wp2_with fail
           go_quiet ((go_at_call 200;exact Calls.quiet_of (before_q _ _ _ r _ _ _ (show Ints (World.drewN wr _) A3 n1 r from HR3.out.1) (by omega) (by omega) (by omega) (by omega))))
           go_wp2_with fail
           rw [show ((k : Nat) : Int) = ((Wl.place r l x : Nat) : Int) by rw [hpl.out]]
           refine (insert_own w2.heap.size n2 (Wl.place r l x) _ _ l x _ (own_alloc (own_drewN HOR.out _) _) (by rw [← Hl.out];exact Wl.place_le r l x) (by omega) (heap_alloc_new _ _) (fun h hh => by have:=own_lt HOR.out hh;first | omega | (simp;omega)) (by have h7:=HKR.out.size;have h8:=kc.size;simp;omega)).mono ?_
           rintro e w5 ⟨A5,n5,c5,rfl,hi5,hge5,hk5⟩
           have HI5:=Lib.hid hi5
           have HG5:=Lib.hid hge5
           have hXg : g ∉ (Value.slice (some ⟨b4,o4,none⟩) n2 c4).ownBlock.toList:=fun hh => hne4.out g (by simpa using hh) rfl
           have hXb : b1 ∉ (Value.slice (some ⟨b4,o4,none⟩) n2 c4).ownBlock.toList:=fun hh => by have:=own_ge HOR.out (g:=b1) (by simpa using hh);omega
           have BG5:=hk5.blk hXg ((BgR.drewN _).alloc _)
           have BB5:=hk5.blk hXb ((BbR.drewN _).alloc _)
           have ⟨Lg5,Cg5,Fg5⟩:=BG5
           have ⟨Lb5,Cb5,Fb5⟩:=BB5
           have HI35:=Lib.hid (HR3.out)
           clear hi5 hge5 Cg Fg C1' F1'
           go_wp2_with fail
           have hkf:=((((Kept.refl [g,b1] w5).set g 1 (.slice A5 n5 c5) (.inl (by simp))).set b1 0 (.slice A3 n1 c3) (.inl (by simp))).set b1 1 (.slice A5 n5 c5) (.inl (by simp)))
           have ⟨L1f,C1f,F1f⟩:=(Blk.set2 (v0:=.slice A3 n1 c3) (v1:=.slice A5 n5 c5) ((BB5.setOther g 1 (.slice A5 n5 c5) (Ne.symm hne)).n rfl))
           refine bodyPost_ret (by simp [results,Tryz.results180,go_sem,C1f];rfl) rfl ?_
           refine ⟨_,_,_,_,_,_,rfl,(((HR3.out.drewN _).later ((Below.refl _ _).alloc (Nat.le_refl _) _)).keptX hk5 (fun _ a ha hh => ?_)).keptX hkf (fun _ a ha => ?_),HI5.out.keptX hkf (fun _ a ha => ?_),?_,fun a ha => ?_,fun a ha => ?_⟩
           · subst ha;exact (hne3.out a.block rfl).2 a.block (by simpa using hh) rfl
           · subst ha
             have t1:=(hne3.out a.block rfl).1
             have:=HG3.out a rfl
             simp;omega
           · obtain ⟨t5,t6⟩:=HG5.out a ha
             rcases t6 with t6 | t6
             · have:=hne4.out _ t6
               simp;omega
             · have h2:=kc.size
               have h7:=HKR.out.size
               simp at t6;simp;omega
           · refine Kept.below (X:=[g,b1]) (Kept.below (X:=(Value.slice (some ⟨b4,o4,none⟩) n2 c4).ownBlock.toList) (Kept.below (X:=[]) (kc.below hBV hBV.size (by simp)) (Nat.le_trans hBV.size kc.size) (by simp) (((HKR.out).drewN _).alloc _)) ?_ ?_ hk5) ?_ ?_ hkf
             · have h1:=hBV.size;have h2:=kc.size;have h7:=HKR.out.size;simp;omega
             · intro y hy;have:=own_ge HOR.out (g:=y) (by simpa using hy);have h1:=hBV.size;omega
             · have h1:=hBV.size;have h2:=kc.size;have h3:=hk5.size;have h7:=HKR.out.size;simp at h3;omega
             · have h1:=hBV.size;simp;omega
           · have t1:=HG3.out a ha;have t2:=hBV.size;have t3:=hkf.size;have t4:=hk5.size;have t5:=kc.size;simp at t4;first | omega | (have t7:=HKR.out.size;omega)
           · have t1:=HG5.out a ha;have t2:=hBV.size;have t3:=hkf.size;have t5:=HI5.out.inW (by simp [Wl.ins]) ha;omega
end Go.Proofs.YtincpmdldpakkaaGreatDoor
namespace Go.Df
open Go.RowKit
namespace Iv
open Sp
structure Kn where
 (A1 A2 A3 A4 : Option Addr)
 (n1 c1 n2 c2 n3 c3 n4 c4 sb ro rc rl rr rs er pr : Nat)
 tr : Nat → Nat
 em : Nat → Option Nat
 ec : Nat → Nat
 ev : Nat → Value → Value
structure Gh where
 m : Nat → Nat → Option Nat
 c : Nat → Nat → Nat
 jv : Nat → Value → Value
 wv : Nat → Nat → Value → Value
 vv : Nat → Value → Value
 pv : Nat → Value
 (qA rA : Option Addr)
 (qn qc rc : Nat)
def sbox (p : Vb) (K : Kn) (G : Gh) : List Value :=
 [.slice K.A1 K.n1 K.c1,.slice K.A2 K.n2 K.c2,.int .i64 p.mn,.int .i64 p.F,.slice K.A3 K.n3 K.c3,.slice K.A4 K.n4 K.c4,.slice (some ⟨K.sb,0,none⟩) K.n1 K.n1,.slice (some ⟨K.ro,0,none⟩) K.n1 K.n1,.slice (some ⟨K.rc,0,none⟩) K.n1 K.n1,.slice (some ⟨K.rl,0,none⟩) K.n1 K.n1,.slice (some ⟨K.rr,0,none⟩) K.n1 K.n1,.slice (some ⟨K.rs,0,none⟩) K.n1 K.n1,
  .slice (some ⟨K.tr 0,0,none⟩) K.n1 K.n1,.slice (some ⟨K.tr 1,0,none⟩) K.n1 K.n1,.slice (some ⟨K.tr 2,0,none⟩) K.n1 K.n1,.slice (some ⟨K.er,0,none⟩) K.n2 K.n2,.slice (some ⟨K.tr 3,0,none⟩) K.n1 K.n1,.slice (some ⟨K.pr,0,none⟩) K.n1 K.n1,.slice G.rA 0 G.rc,.slice G.qA G.qn G.qc]
def xv (x : D) : Value:=.agg #[.int .i64 x.1.k,.int .i64 x.1.b,.int .i64 x.1.c]
def uv (v : U) : Value:=.agg #[.int .i64 v.1.k,.int .i64 v.1.n]
theorem xv_inj {x y : D} (h : xv x = xv y) : x = y:=by
 unfold xv at h
 simp at h
 obtain ⟨h1,h2,h3⟩:=h
 refine Subtype.ext ?_
 obtain ⟨⟨a,b,c⟩,_⟩:=x
 obtain ⟨⟨a',b',c'⟩,_⟩:=y
 simp at h1 h2 h3
 subst h1 h2 h3
 rfl
theorem uv_inj {x y : U} (h : uv x = uv y) : x = y:=by
 unfold uv at h
 simp at h
 obtain ⟨h1,h2⟩:=h
 refine Subtype.ext ?_
 obtain ⟨⟨a,b⟩,_⟩:=x
 obtain ⟨⟨a',b'⟩,_⟩:=y
 simp at h1 h2
 subst h1 h2
 rfl
theorem newD {x y : D} (h : ¬ meet x y = x) {a b c : Int} (e : xv (meet x y) = .agg #[.int .i64 a,.int .i64 b,.int .i64 c]) : ¬ (a = 0 ∧ b = 0 ∧ c = 0):=by
 rintro ⟨rfl,rfl,rfl⟩
 have e1 : meet x y = top:=xv_inj e
 have e2 : meet x (meet x y) = meet x y:=by rw [← meet_assoc,meet_self]
 rw [e1,meet_top] at e2
 exact h (e1.trans e2.symm)
theorem newU {x y : U} (h : ¬ meetV x y = x) {a b : Int} (e : uv (meetV x y) = .agg #[.int .i64 a,.int .i64 b]) : ¬ (a = 0 ∧ b = 0):=by
 rintro ⟨rfl,rfl⟩
 have e1 : meetV x y = topV:=uv_inj e
 have e2 : meetV x (meetV x y) = meetV x y:=by rw [← meetV_assoc,meetV_self]
 rw [e1,meetV_top] at e2
 exact h (e1.trans e2.symm)
def pv2 (a d : Nat) : Value:=.agg #[.int .i64 (a : Int),.int .i64 (d : Int)]
theorem pv2_inj {a d a' d' : Nat} (h : pv2 a d = pv2 a' d') : a = a' ∧ d = d':=by
 unfold pv2 at h
 injection h with h
 have h1:=congrArg (fun x : Array Value => x[0]?) h
 have h2:=congrArg (fun x : Array Value => x[1]?) h
 simp at h1 h2
 omega
def leavL (p : Vb) (n : Nat) : List Nat:=(List.range p.es.length).filter fun k => (ge p.es k).k == 2 && If.stOf p.ns (ge p.es k).a.toNat == n
def entL (p : Vb) (k b : Nat) : List Nat:=(List.range (gl p.fl k).length).filter fun i => (gx (gl p.fl k) i).o == (b : Int)
def seedV (p : Vb) (n : Nat) : List Vs:=p.sd.filter fun s => s.n == (n : Int)
def VssO (O : Nat → Prop) (w : World) (A : Option Addr) (n : Nat) (l : List Vs) : Prop:=Vss w A n l ∧ (0 < n → ∀ a,A = some a → SafeB O w a.block)
theorem VssO.fx {O O' : Nat → Prop} {w w' : World} {A : Option Addr} {n : Nat} {l : List Vs} (h : VssO O w A n l) (f : Fx O O' w w') : VssO O' w' A n l:=by
 refine ⟨⟨h.1.1,fun hn => ?_⟩,fun hn a ha => (h.2 hn a ha).fx f⟩
 obtain ⟨b,o,e,hl,hc⟩:=h.1.2 hn
 have hs:=h.2 hn _ e
 exact ⟨b,o,e,(hs.fx f).1,fun i hi => ⟨(hs.cell f _).trans (hc i hi).1,(hs.cell f _).trans (hc i hi).2.1,(hs.cell f _).trans (hc i hi).2.2.1,(hs.cell f _).trans (hc i hi).2.2.2⟩⟩
def SnapL (K : Kn) (O : Nat → Prop) (G : Gh) (s : St) (w : World) (A : Option Addr) (n : Nat) (l : List Nat) : Prop :=
 Ints w A n (ofNats l) ∧ (0 < n → ∀ a,A = some a → SafeB O w a.block ∨ ∃ g i m b,a = ⟨g,0,none⟩ ∧ (i = 1 ∨ i = 2) ∧ m < K.n1 ∧ (G.wv i m (.int .i64 (b : Nat))).ownBlock = some g ∧ ∃ r,s.ls i m b = l ++ r)
structure Fy (K : Kn) (O O' : Nat → Prop) (G G' : Gh) (s s' : St) (w w' : World) : Prop where
 fx : Fx O O' w w'
 sn : ∀ A n l,SnapL K O G s w A n l → SnapL K O' G' s' w' A n l
theorem Fy.refl (K : Kn) (O : Nat → Prop) (G : Gh) (s : St) (w : World) : Fy K O O G G s s w w:=⟨Fx.refl O w,fun _ _ _ h => h⟩
theorem Fy.trans {K : Kn} {O O' O'' : Nat → Prop} {G G' G'' : Gh} {s s' s'' : St} {w w' w'' : World} (h : Fy K O O' G G' s s' w w') (k : Fy K O' O'' G' G'' s' s'' w' w'') : Fy K O O'' G G'' s s'' w w'':=⟨h.fx.trans k.fx,fun A n l hs => k.sn A n l (h.sn A n l hs)⟩
end Iv
end Go.Df
namespace Go.Proofs.YtincpmdldpakkaaGreatDoor
open Go.RowKit Go.Df Go.Df.Iv Go.Df.Sp
structure Inp (p : Vb) (K : Kn) (w0 : World) : Prop where
 nd : Nds w0 K.A1 K.n1 p.ns
 ed : Eds w0 K.A2 K.n2 p.es
 fl : Fls w0 K.A3 K.n3 p.fl
 sd : Vss w0 K.A4 K.n4 p.sd
 fc : ∀ b o i A n c,K.A3 = some ⟨b,o,none⟩ → i < K.n3 → w0.cell? ⟨b,o + i,none⟩ = some (.slice A n c) → n ≤ c
structure Mem (p : Vb) (K : Kn) (w0 : World) (b : Nat) (O : Nat → Prop) (G : Gh) (w : World) (s : St) : Prop where
 low : Below w0.heap.size w0 w
 og : ∀ x,O x → w0.heap.size ≤ x ∧ x < w.heap.size
 ob : O b
 box : Blk w b (sbox p K G)
 btag : Tag w b 99
 start : SafeB O w K.sb ∧ ∀ i,i < K.n1 → w.cell? ⟨K.sb,i,none⟩ = some (.int .i64 (If.stOf p.ns i : Nat))
 out : RowsC O w K.ro K.n1 (fun i => ofNats (If.outL (pf p) i))
 calls : RowsC O w K.rc K.n1 (fun i => ofNats (If.callL (pf p) i))
 leav : RowsC O w K.rl K.n1 (fun i => ofNats (leavL p i))
 rets : RowsC O w K.rr K.n1 (fun i => ofNats (If.retL (pf p) i))
 seeds : SafeB O w K.rs ∧ ∀ i,i < K.n1 → ∃ A m c,w.cell? ⟨K.rs,i,none⟩ = some (.slice A m c) ∧ VssO O w A m (seedV p i)
 entr : TbL w K.er K.n2 K.em K.ec K.ev
 entO : SafeB O w K.er ∧ ∀ k x,k < K.n2 → K.em k = some x → SafeB O w x
 ents : ∀ k c,k < K.n2 → (ge p.es k).k = 2 → ∃ A m d,K.ev k (.int .i64 (c : Nat)) = .slice A m d ∧ SInO O w A m d (ofNats (entL p k c))
 tj : TbX w (K.tr 0) K.n1 (G.m 0) (G.c 0) G.jv
 tw : ∀ i,i = 1 ∨ i = 2 → TbL w (K.tr i) K.n1 (G.m i) (G.c i) (G.wv i)
 tv : TbV w (K.tr 3) K.n1 (G.m 3) (G.c 3) G.vv
 hj : ∀ n a d,n < K.n1 → G.jv n (pv2 a d) = xv (s.T n a d)
 hv : ∀ n a,n < K.n1 → G.vv n (.int .i64 (a : Nat)) = uv (s.V n a)
 jno : ∀ n key,n < K.n1 → (∀ a d,key ≠ pv2 a d) → G.jv n key = xv top
 hw : ∀ i n a,i = 1 ∨ i = 2 → n < K.n1 → w.ownsRow w0.heap.size 3 1 (G.wv i n (.int .i64 (a : Nat))) (s.ls i n a).length ((ofNats (s.ls i n a)).map (Value.int .i64))
 otr : ∀ i,i < 4 → O (K.tr i)
 opr : O K.pr
 om : ∀ i n x,i < 4 → n < K.n1 → G.m i n = some x → O x
 ow : ∀ i n a x,i = 1 ∨ i = 2 → n < K.n1 → (G.wv i n (.int .i64 (a : Nat))).ownBlock = some x → O x
 opv : ∀ n x,n < K.n1 → (G.pv n).ownBlock = some x → O x
 minj : ∀ i j n m x,i < 4 → j < 4 → n < K.n1 → m < K.n1 → G.m i n = some x → G.m j m = some x → i = j ∧ n = m
 winj : ∀ i n a j m c x,i = 1 ∨ i = 2 → j = 1 ∨ j = 2 → n < K.n1 → m < K.n1 → (G.wv i n (.int .i64 (a : Nat))).ownBlock = some x → (G.wv j m (.int .i64 (c : Nat))).ownBlock = some x → i = j ∧ n = m ∧ a = c
 trne : K.tr 1 ≠ K.tr 2
 prow : ∀ n,n < K.n1 → w.cell? ⟨K.pr,n,none⟩ = some (G.pv n)
 ptag : Tag w K.pr 122
 pown : ∀ n,n < K.n1 → w.ownsRow w0.heap.size 101 2 (G.pv n) (s.pd n).length (pcells (s.pd n))
 dpp : ∀ n n' x,n < K.n1 → n' < K.n1 → (G.pv n).ownBlock = some x → (G.pv n').ownBlock = some x → n = n'
 queue : SInO O w G.qA G.qn G.qc (ofNats s.q)
 rank : SIn w G.rA 0 G.rc []
 cb : ∀ i n,i < 4 → n < K.n1 → G.c i n ≤ s.k i
 pb : ∀ n,n < K.n1 → (s.pd n).length ≤ s.k 4
section
variable {p : Vb} {K : Kn} {w0 : World} {b : Nat} {O O' : Nat → Prop} {G : Gh} {w w' : World} {s : St}
structure Stat (p : Vb) (K : Kn) (w0 : World) (O : Nat → Prop) (w : World) : Prop where
 low : Below w0.heap.size w0 w
 start : SafeB O w K.sb ∧ ∀ i,i < K.n1 → w.cell? ⟨K.sb,i,none⟩ = some (.int .i64 (If.stOf p.ns i : Nat))
 out : RowsC O w K.ro K.n1 (fun i => ofNats (If.outL (pf p) i))
 calls : RowsC O w K.rc K.n1 (fun i => ofNats (If.callL (pf p) i))
 leav : RowsC O w K.rl K.n1 (fun i => ofNats (leavL p i))
 rets : RowsC O w K.rr K.n1 (fun i => ofNats (If.retL (pf p) i))
 seeds : SafeB O w K.rs ∧ ∀ i,i < K.n1 → ∃ A m c,w.cell? ⟨K.rs,i,none⟩ = some (.slice A m c) ∧ VssO O w A m (seedV p i)
 entr : TbL w K.er K.n2 K.em K.ec K.ev
 entO : SafeB O w K.er ∧ ∀ k x,k < K.n2 → K.em k = some x → SafeB O w x
 ents : ∀ k c,k < K.n2 → (ge p.es k).k = 2 → ∃ A m d,K.ev k (.int .i64 (c : Nat)) = .slice A m d ∧ SInO O w A m d (ofNats (entL p k c))
theorem Mem.stat (h : Mem p K w0 b O G w s) : Stat p K w0 O w:=⟨h.low,h.start,h.out,h.calls,h.leav,h.rets,h.seeds,h.entr,h.entO,h.ents⟩
theorem tb_same {P : Program} {k tM : TypeId} {z : Value} {r N : Nat} {m : Nat → Option Nat} {c : Nat → Nat} {v : Nat → Value → Value} (h : Tb P k tM z w r N m c v) (hr : w'.heap[r]? = w.heap[r]?) (hm : ∀ n b,n < N → m n = some b → w'.heap[b]? = w.heap[b]?) : Tb P k tM z w' r N m c v:=by
 obtain ⟨cur,h1,h2,h3⟩:=h.row
 exact ⟨⟨cur,hr.trans h1,h2,h3⟩,fun n b hn hb => (h.is n b hn hb).same (hm n b hn hb),h.no,h.inj⟩
theorem Stat.fx (h : Stat p K w0 O w) (f : Fx O O' w w') (hO : ∀ x,O x → w0.heap.size ≤ x) : Stat p K w0 O' w' :=
 { low:=f.below h.low hO,start:=⟨h.start.1.fx f,fun i hi => (h.start.1.cell f i).trans (h.start.2 i hi)⟩,out:=h.out.fx f,calls:=h.calls.fx f,leav:=h.leav.fx f,rets:=h.rets.fx f,
   seeds:=⟨h.seeds.1.fx f,fun i hi => by
     obtain ⟨A,m,c,h1,h2⟩:=h.seeds.2 i hi
     exact ⟨A,m,c,(h.seeds.1.cell f i).trans h1,h2.fx f⟩⟩,
   entr:=tb_same h.entr (h.entO.1.heap f) (fun n x hn hx => (h.entO.2 n x hn hx).heap f),entO:=⟨h.entO.1.fx f,fun k x hk hx => (h.entO.2 k x hk hx).fx f⟩,
   ents:=fun k c hk hc => by
     obtain ⟨A,m,d,h1,h2⟩:=h.ents k c hk hc
     exact ⟨A,m,d,h1,h2.fx f⟩ }
theorem Mem.kept (h : Mem p K w0 b O G w s) (hk : Kept [] w w') : Mem p K w0 b O G w' s:=by
 have f : Fx O O w w':=.same hk
 have S:=h.stat.fx f (fun x hx => (h.og x hx).1)
 exact { h with low:=S.low,og:=fun x hx => ⟨(h.og x hx).1,Nat.lt_of_lt_of_le (h.og x hx).2 hk.size⟩,box:=hk.blk (by simp) h.box,btag:=h.btag.same (hk.block b h.btag.lt (by simp)),start:=S.start,out:=S.out,calls:=S.calls,leav:=S.leav,rets:=S.rets,seeds:=S.seeds,entr:=S.entr,entO:=S.entO,ents:=S.ents,tj:=h.tj.kept hk (by simp) (by simp),tw:=fun i hi => (h.tw i hi).kept hk (by simp) (by simp),tv:=h.tv.kept hk (by simp) (by simp),hw:=fun i n a hi hn => own_kept2 (h.hw i n a hi hn) hk (by simp),prow:=fun n hn => (hk.cell K.pr n h.ptag.lt (by simp)).trans (h.prow n hn),ptag:=h.ptag.same (hk.block _ h.ptag.lt (by simp)),pown:=fun n hn => own_kept2 (h.pown n hn) hk (by simp),queue:=h.queue.fx f,rank:=h.rank.kept hk }
theorem Mem.call (h : Mem p K w0 b O G w s) (hb : Below w.heap.size w w') : Mem p K w0 b O G w' s:=h.kept ((Kept.refl _ _).call hb)
theorem Mem.eq {s' : St} (h : Mem p K w0 b O G w s) (e : s = s') : Mem p K w0 b O G w s':=e ▸ h
theorem Fy.kept (K : Kn) (O : Nat → Prop) (G : Gh) (s : St) (hk : Kept [] w w') : Fy K O O G G s s w w' :=
 ⟨.same hk,fun _ _ _ hs => ⟨hs.1.kept hk,fun hn a ha => (hs.2 hn a ha).imp (fun h1 => h1.fx (.same hk)) id⟩⟩
theorem Mem.snap (h : Mem p K w0 b O G w s) {i n a : Nat} (hi : i = 1 ∨ i = 2) (hn : n < K.n1) : ∃ A m c,G.wv i n (.int .i64 (a : Nat)) = .slice A m c ∧ m = (s.ls i n a).length ∧ SnapL K O G s w A m (s.ls i n a):=by
 have ho:=h.hw i n a hi hn
 obtain ⟨A,c,hv,hin,hnn⟩:=Ints.of_own ho
 refine ⟨A,_,c,hv,rfl,hin,fun h0 x hx => .inr ?_⟩
 rcases ho.2 with ⟨h1,h2⟩ | ⟨g,cap,cur,h1,_⟩
 · omega
 · rw [hv] at h1
   injection h1 with h1 _ _
   rw [h1] at hx
   injection hx with hx
   refine ⟨g,i,n,a,hx.symm,hi,hn,by rw [hv,h1];rfl,[],by simp⟩
end
end Go.Proofs.YtincpmdldpakkaaGreatDoor
