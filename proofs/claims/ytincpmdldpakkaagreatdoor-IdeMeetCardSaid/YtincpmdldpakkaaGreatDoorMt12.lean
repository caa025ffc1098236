/- Texts: Wa Wb Dd. -/
import Derived.Test.YtincpmdldpakkaaGreatDoorMt11
namespace Go.Df
open Go.RowKit
theorem SX1.fresh {W w w' : World} {x n : Nat} {X : List Nat} (h : SX1 W x n w) (hk : Kept X w w') (hX : ∀ y ∈ X,W.heap.size ≤ y) (hx : x < W.heap.size) : SX1 W x n w':=by
 obtain ⟨C,hC,hb⟩:=h.blk
 rw [← hC]
 exact SX1.of_blk (h.1.next hk (fun y hy => .inr (hX y hy))) (hk.blk (fun hh => by have:=hX x hh;omega) hb)
theorem SIn.front {w : World} {A : Option Addr} {n c k : Nat} {xs : List Int} (h : SIn w A n c xs) (hk : k ≤ n) : SIn w A k c (xs.take k):=by
 refine ⟨⟨by rw [List.length_take,h.1.1];omega,fun h0 => ?_⟩,by have:=h.2.1;omega,h.2.2.1,fun ha => by have:=h.2.2.2 ha;omega⟩
 obtain ⟨b,o,e,hl,hc⟩:=h.1.2 (by omega)
 refine ⟨b,o,e,hl,fun i hi => ?_⟩
 rw [hc i (by omega),gi_lt (by rw [h.1.1];omega),gi_lt (by rw [List.length_take,h.1.1];omega),List.getElem_take]
end Go.Df
namespace Go.Proofs.YtincpmdldpakkaaGreatDoor
open Go.RowKit Go.Df
attribute [local go_sem ↓] Go.wp_at_zero Go.wp_at_succ
set_option maxRecDepth 100000 in
set_option maxHeartbeats 4000000 in
theorem rstep_any (A1 A2 A : Option Addr) (n1 c1 n2 c2 n c : Nat) (mn at_ k : Int) (es : List Sp.Ed) (cs : List Int) (w : World) (he : Eds w A2 n2 es) (hs : n2 ≤ 1000000) (hp : SIn w A n c cs.reverse) (hn : n ≤ 1000000) :
   Calls Tryz.prog 42 #[.agg #[.slice A1 n1 c1,.slice A2 n2 c2,.int .i64 mn],.agg #[.int .i64 at_,.slice A n c],.int .i64 k] w fun e w' =>
     ∃ A' n' c',e = .returned (.tuple #[.agg #[.int .i64 (Sp.stepS es at_ cs k).2.1,.slice A' n' c'],.int .i64 (Sp.stepS es at_ cs k).1]) ∧ SIn w' A' n' c' (Sp.stepS es at_ cs k).2.2.reverse ∧ (∀ a,A' = some a → (∃ a0,A = some a0 ∧ a.block = a0.block) ∨ w.heap.size ≤ a.block) ∧ Below w.heap.size w w':=by
 obtain ⟨i0,hi,hz0,hz1,hz2⟩:=info_parts int_info
 have mixed : Tryz.prog.follows Departure.mixedOrders = true:=by kernel_rfl
 have HE:=Lib.hid he
 have HL:=Lib.hid he.1
 have HP:=Lib.hid hp
 have HLc : Hid (cs.length = n):=by show _ = _;have:=hp.1.1;simpa using this
 have hnc:=hp.2.1
 have hcm:=hp.2.2.1
 clear he hp
 go_enter Tryz.func42,Tryz.ntmps42
 go_upto_region 1 with fail
 refine wp_named (fun W => ∃ b0 b1 b2,w.heap.size = b0 ∧ w.heap.size + 1 = b1 ∧ w.heap.size + 1 + 1 = b2 ∧ Blk W b0 [.slice A1 n1 c1,.slice A2 n2 c2,.int .i64 mn] ∧ Blk W b1 [.int .i64 at_,.slice A n c] ∧ Blk W b2 [.int .i64 0,.slice none 0 0] ∧ Below w.heap.size w W) ⟨_,_,_,rfl,rfl,rfl,?_,?_,?_,?_⟩ ?_
 · exact ((Blk.new _ _ _ _ (by first | rfl | simp)).alloc _).alloc _
 · exact (Blk.new _ _ _ _ (by first | rfl | simp)).alloc _
 · exact kbn
 · go_grown
 rintro W ⟨b0,b1,b2,e0,e1,e2,B0,B1,B2,hB⟩
 rw [e2,e1,e0]
 have G0 : w.heap.size ≤ b0:=by omega
 have n01 : b0 ≠ b1:=by omega
 have n02 : b0 ≠ b2:=by omega
 have G1 : w.heap.size ≤ b1:=by omega
 have n10 : b1 ≠ b0:=by omega
 have n12 : b1 ≠ b2:=by omega
 have G2 : w.heap.size ≤ b2:=by omega
 have n20 : b2 ≠ b0:=by omega
 have n21 : b2 ≠ b1:=by omega
 clear e0 e1 e2
 have ⟨L0,C0,F0⟩:=B0
 have ⟨L1,C1,F1⟩:=B1
 have ⟨L2,C2,F2⟩:=B2
 by_cases hra : k < 0
 · have d1 : decide (k < 0) = true:=by simpa using hra
   have HS : Hid (Sp.stepS es at_ cs k = (4,0,[])):=by
     show Sp.stepS es at_ cs k = _
     unfold Sp.stepS
     rw [HL.out,if_pos (by omega)]
   have hkX0 : Kept [b2] W W:=Kept.refl _ _
   go_wp2_with fail
   try simp only [Exit.inBlock,Exit.then]
   refine post_named (fun X => Blk X b2 [.int .i64 0,.slice none 0 0] ∧ Kept [b2] W X) ⟨?_,?_⟩ ?_
   · exact kbo
   · (repeat' first | (with_reducible assumption) | (with_reducible exact Kept.refl _ _) | (with_reducible refine Kept.alloc ?_ _) | (with_reducible refine Kept.call ?_ (by assumption)) | (with_reducible refine Kept.set ?_ _ _ _ (Or.inl (by simp))) | (with_reducible refine Kept.drew ?_) | (with_reducible refine Kept.drewN ?_ _) | (with_reducible exact hkX0))
   rintro X ⟨BX,hkX⟩
   have ⟨LX,CX,FX⟩:=BX
   have hBX:=hkX.below hB hB.size (by simp;omega)
   refine bodyPost_ret (by simp [results,Tryz.results42,go_sem,CX];try rfl) rfl ?_
   rw [HS.out]
   exact ⟨none,0,0,rfl,SIn.nil _,(fun a ha => by cases ha),hBX⟩
 have da : decide (k < 0) = false:=by simpa using hra
 by_cases hrb : (n2 : Int) ≤ k
 · have d1 : decide ((n2 : Int) ≤ k) = true:=by simpa using hrb
   have HS : Hid (Sp.stepS es at_ cs k = (4,0,[])):=by
     show Sp.stepS es at_ cs k = _
     unfold Sp.stepS
     rw [HL.out,if_pos (by omega)]
   have hkX0 : Kept [b2] W W:=Kept.refl _ _
   go_wp2_with fail
   try simp only [Exit.inBlock,Exit.then]
   refine post_named (fun X => Blk X b2 [.int .i64 0,.slice none 0 0] ∧ Kept [b2] W X) ⟨?_,?_⟩ ?_
   · exact kbo
   · (repeat' first | (with_reducible assumption) | (with_reducible exact Kept.refl _ _) | (with_reducible refine Kept.alloc ?_ _) | (with_reducible refine Kept.call ?_ (by assumption)) | (with_reducible refine Kept.set ?_ _ _ _ (Or.inl (by simp))) | (with_reducible refine Kept.drew ?_) | (with_reducible refine Kept.drewN ?_ _) | (with_reducible exact hkX0))
   rintro X ⟨BX,hkX⟩
   have ⟨LX,CX,FX⟩:=BX
   have hBX:=hkX.below hB hB.size (by simp;omega)
   refine bodyPost_ret (by simp [results,Tryz.results42,go_sem,CX];try rfl) rfl ?_
   rw [HS.out]
   exact ⟨none,0,0,rfl,SIn.nil _,(fun a ha => by cases ha),hBX⟩
 have db : decide ((n2 : Int) ≤ k) = false:=by simpa using hrb
 obtain ⟨x,rfl⟩:=Int.eq_ofNat_of_zero_le (show 0 ≤ k by omega)
 have hx : x < n2:=by omega
 obtain ⟨b,o,rfl,hl,hc⟩:=(HE.out.later hB).2 (by omega)
 obtain ⟨h1,h2,h3,h4⟩:=hc x hx
 clear hc
 obtain ⟨ea,eb,ek,ec,en⟩ : ∃ ea eb ek ec,ge es x = ⟨ea,eb,ek,ec⟩:=⟨_,_,_,_,rfl⟩
 rw [en] at h1 h2 h3 h4
 have HF : Hid (Sp.stepS es at_ cs x = if ea ≠ at_ then (16,0,[]) else if ek = 3 ∨ ek = 4 then (if cs = [] ∨ gi cs 0 ≠ ec then (20,0,[]) else (0,eb,cs.tail)) else if ek = 2 then (0,eb,at_ :: cs) else (0,eb,cs)):=by
   show Sp.stepS es at_ cs x = _
   unfold Sp.stepS
   rw [HL.out,if_neg (by omega),Int.toNat_natCast,en]
 clear en
 go_upto_region 4 with fail
 refine wp_named (fun V => ∃ g,W.heap.size = g ∧ Blk V g [.int .i64 ea,.int .i64 eb,.int .i64 ek,.int .i64 ec] ∧ Kept [] W V) ⟨_,rfl,Blk.new _ _ _ _ rfl,(Kept.refl _ _).alloc _⟩ ?_
 rintro V ⟨g,eg,Bg,hkV⟩
 rw [eg]
 have ⟨LG,CG,FG⟩:=Bg
 have BV0:=hkV.blk (by simp) B0
 have ⟨LV0,CV0,FV0⟩:=BV0
 have BV1:=hkV.blk (by simp) B1
 have ⟨LV1,CV1,FV1⟩:=BV1
 have BV2:=hkV.blk (by simp) B2
 have ⟨LV2,CV2,FV2⟩:=BV2
 have g2 : g ≠ b2:=by omega
 have g1 : g ≠ b1:=by omega
 have hBV:=hkV.below hB hB.size (by simp)
 have SV:=Lib.hid (HP.out.later hBV)
 clear C0 F0 C1 F1 C2 F2 h1 h2 h3 h4 eg
 have hkX0 : Kept [b2] W V:=(Kept.refl _ _).next hkV (by simp)
 by_cases ha : ea = at_
 case neg =>
   have ha' : (ea != at_) = true:=by simpa using ha
   have HS:=Lib.hid (HF.out.trans (if_pos ha))
   clear ha
   go_wp2_with fail
   try simp only [Exit.inBlock,Exit.then]
   refine post_named (fun X => Blk X b2 [.int .i64 0,.slice none 0 0] ∧ Kept [b2] W X) ⟨?_,?_⟩ ?_
   · exact kbo
   · (repeat' first | (with_reducible assumption) | (with_reducible exact Kept.refl _ _) | (with_reducible refine Kept.alloc ?_ _) | (with_reducible refine Kept.call ?_ (by assumption)) | (with_reducible refine Kept.set ?_ _ _ _ (Or.inl (by simp))) | (with_reducible refine Kept.drew ?_) | (with_reducible refine Kept.drewN ?_ _) | (with_reducible exact hkX0))
   rintro X ⟨BX,hkX⟩
   have ⟨LX,CX,FX⟩:=BX
   have hBX:=hkX.below hB hB.size (by simp;omega)
   refine bodyPost_ret (by simp [results,Tryz.results42,go_sem,CX];try rfl) rfl ?_
   rw [HS.out]
   exact ⟨none,0,0,rfl,SIn.nil _,(fun a ha => by cases ha),hBX⟩
 have ha' : (ea != at_) = false:=by simpa using ha
 have HF2:=Lib.hid (HF.out.trans (if_neg (not_not_intro ha)))
 have HA:=Lib.hid ha
 clear ha HF
 by_cases h2 : ek = 2
 · have t2 : (ek == 2) = true:=by simpa using h2
   have HS:=Lib.hid (HF2.out.trans ((if_neg (by omega)).trans (if_pos h2)))
   clear h2 HF2
   have hinit : SX1 V b2 2 V.drew:=SX1.init BV2
   have hrefl : SX1 V b2 2 V:=SX1.refl BV2
   go_upto_region 8 with fail
   go_cut [7] (fun s wx => s = .int .i64 0 ∧ ∃ (A6 : Option Addr) (c6 : Nat),Blk wx b2 [.int .i64 eb,.slice A6 (n + 1) c6] ∧ wx.ownsRow V.heap.size 3 1 (.slice A6 (n + 1) c6) (n + 1) ((ea :: cs).reverse.map (Value.int .i64)) ∧ Kept [b2] V wx)
   case first =>
     go_region_held3 (fun w' => SX1 V b2 2 w') (repeat' first | (with_reducible assumption) | (with_reducible exact SX1.init BV2) | (with_reducible exact SX1.refl BV2) | (with_reducible refine SX1.alloc ?_ _) | (with_reducible refine SX1.call ?_ (by assumption)) | (with_reducible refine SX1.set ?_ _ _) | (with_reducible refine SX1.setNew ?_ _ _ _ ?_ ?_) | (with_reducible refine SX1.drew ?_) | (simp;done) | omega | (simp;omega))
       (first | (refine step_append_rd _ rfl (.tmp 37) (.tmp 39) 30 rfl V.heap.size 3 i0 (.int .i64 0) 1 8 Tryz.underlying30 hi hz0 hz1 hz2 rfl (by decide) (.slice (some ⟨_,0,none⟩) 0 0) 0 [] rfl (by first | exact own_new0 _ _ _ _ (by first | rfl | simp) (by first | (simp;done) | (simp;omega)) | exact own_alloc (own_new0 _ _ _ _ (by first | rfl | simp) (by first | (simp;done) | (simp;omega))) _) A n c (cs.reverse.map (Value.int .i64)) rfl ((Rd.ints SV.out.1).kept (by (exact kpt0))) SV.out.2.2.2 (ints_one _) n (by omega) (cs.reverse.map (Value.int .i64)) rfl (by unfold maxLen;omega) (by omega) (by first | (simp;done) | (simp;omega) | omega) ?_;intro A5 c5 w5 hown5 hk5 hat5;have hs5 : SX1 V b2 2 w5:=SX1.fresh (by (repeat' first | (with_reducible assumption) | (with_reducible exact SX1.init BV2) | (with_reducible exact SX1.refl BV2) | (with_reducible refine SX1.alloc ?_ _) | (with_reducible refine SX1.call ?_ (by assumption)) | (with_reducible refine SX1.set ?_ _ _) | (with_reducible refine SX1.setNew ?_ _ _ _ ?_ ?_) | (with_reducible refine SX1.drew ?_) | (simp;done) | omega | (simp;omega))) hk5 (by simp [Value.ownBlock]) LV2;have hkk5 : Kept [] V w5:=kept_fresh (by (exact kpt0)) hk5 (by simp [Value.ownBlock]);have ho5:=own_rng hown5) | (refine step_append_rd _ rfl (.tmp 40) (.tmp 43) 30 rfl V.heap.size 3 i0 (.int .i64 0) 1 8 Tryz.underlying30 hi hz0 hz1 hz2 rfl (by decide) (.slice A5 n c5) n (cs.reverse.map (Value.int .i64)) rfl (by first | exact hown5 | exact own_alloc hown5 _) _ 1 1 [.int .i64 ea] rfl (by (repeat' first | (with_reducible refine Rd.drew ?_) | (with_reducible refine Rd.keptX ?_ hk5 ?_) | ((with_reducible refine Rd.new1 _ _ _ _ ?_);simp;done) | (with_reducible refine Rd.alloc ?_ _) | (simp [Value.ownBlock];done))) (fun h => by cases h) (by intro u hu;simp at hu;subst hu;rfl) (n + 1) rfl ((ea :: cs).reverse.map (Value.int .i64)) (by simp) (by unfold maxLen;omega) (by omega) (by have:=hkk5.size;first | (simp;done) | (simp;omega) | omega) ?_;intro A6 c6 w6 hown6 hk6 hat6;have hs6 : SX1 V b2 2 w6:=SX1.fresh (by (repeat' first | (with_reducible assumption) | (with_reducible exact SX1.init BV2) | (with_reducible exact SX1.refl BV2) | (with_reducible refine SX1.alloc ?_ _) | (with_reducible refine SX1.call ?_ (by assumption)) | (with_reducible refine SX1.set ?_ _ _) | (with_reducible refine SX1.setNew ?_ _ _ _ ?_ ?_) | (with_reducible refine SX1.drew ?_) | (simp;done) | omega | (simp;omega))) hk6 (fun y hy => (ho5.out y (by simpa using hy)).1) LV2;have hkk6 : Kept [] V w6:=kept_fresh (by (exact kpt0)) hk6 (fun y hy => (ho5.out y (by simpa using hy)).1);have ho6:=own_rng hown6;have hn6 : BlkN w6 b2 2:=hs6.blk))
     all_goals
       go_wp2_with fail
       go_meet
       refine ⟨rfl,A6,c6,?_,?_,?_⟩
       · exact kbo
       · repeat' first | (with_reducible assumption) | (with_reducible refine own_alloc ?_ _) | (with_reducible refine own_drew ?_) | (with_reducible refine own_set ?_ _ _ _ ?_) | (intro g hg;have:=(ho6.out g hg);omega)
       · have hkz : Kept [b2] V w6:=(Kept.refl _ _).next hkk6 (by simp)
         (repeat' first | (with_reducible assumption) | (with_reducible exact Kept.refl _ _) | (with_reducible refine Kept.alloc ?_ _) | (with_reducible refine Kept.call ?_ (by assumption)) | (with_reducible refine Kept.set ?_ _ _ _ (Or.inl (by simp))) | (with_reducible refine Kept.drew ?_) | (with_reducible refine Kept.drewN ?_ _) | (with_reducible exact hkX0))
   case rest =>
     obtain ⟨rfl,A6,c6,BX6,own6,hk6⟩:=hcut
     obtain ⟨A',c',hv',hin,hge⟩:=SIn.of_own own6
     injection hv' with e1 e2 e3
     subst e1
     subst e3
     have HIN:=Lib.hid hin
     have HGE:=Lib.hid hge
     have hkW6 : Kept [b2] W wc:=hkX0.next hk6 (by simp)
     clear hin own6 hge
     go_wp2_with fail
     try simp only [Exit.inBlock,Exit.then]
     have ⟨LX,CX,FX⟩:=BX6
     have hBX:=hkW6.below hB hB.size (by simp;omega)
     refine bodyPost_ret (by simp [results,Tryz.results42,go_sem,CX];try rfl) rfl ?_
     rw [HS.out]
     refine ⟨A6,n + 1,c6,rfl,?_,(fun a ha => .inr (by have:=(HGE.out a ha).1;have:=hBV.size;omega)),hBX⟩
     have:=HIN.out
     rw [show ea = at_ from HA.out] at this
     exact this
 have t2 : (ek == 2) = false:=by simpa using h2
 have HF3 : Hid (Sp.stepS es at_ cs x = if ek = 3 ∨ ek = 4 then (if cs = [] ∨ gi cs 0 ≠ ec then (20,0,[]) else (0,eb,cs.tail)) else (0,eb,cs)):=by
   show _ = _
   rw [HF2.out,if_neg h2]
 clear h2 HF2
 by_cases hr : ek = 3 ∨ ek = 4
 case neg =>
   have t3 : (ek == 3) = false:=by simp;omega
   have t4 : (ek == 4) = false:=by simp;omega
   have HS:=Lib.hid (HF3.out.trans (if_neg hr))
   clear hr HF3
   go_wp2_with fail
   try simp only [Exit.inBlock,Exit.then]
   refine post_named (fun X => Blk X b2 [.int .i64 eb,.slice A n c] ∧ Kept [b2] W X) ⟨?_,?_⟩ ?_
   · exact kbo
   · (repeat' first | (with_reducible assumption) | (with_reducible exact Kept.refl _ _) | (with_reducible refine Kept.alloc ?_ _) | (with_reducible refine Kept.call ?_ (by assumption)) | (with_reducible refine Kept.set ?_ _ _ _ (Or.inl (by simp))) | (with_reducible refine Kept.drew ?_) | (with_reducible refine Kept.drewN ?_ _) | (with_reducible exact hkX0))
   rintro X ⟨BX,hkX⟩
   have ⟨LX,CX,FX⟩:=BX
   have hBX:=hkX.below hB hB.size (by simp;omega)
   refine bodyPost_ret (by simp [results,Tryz.results42,go_sem,CX];try rfl) rfl ?_
   rw [HS.out]
   exact ⟨A,n,c,rfl,HP.out.later hBX,(fun a ha => .inl ⟨a,ha,rfl⟩),hBX⟩
 have HF4:=Lib.hid (HF3.out.trans (if_pos hr))
 have hr' : (ek == 3) = true ∨ ((ek == 3) = false ∧ (ek == 4) = true):=by
   rcases hr with rfl | rfl
   · exact .inl rfl
   · exact .inr ⟨rfl,rfl⟩
 clear hr HF3
 by_cases hn0 : n = 0
 · have z1 : ((n : Int) == 0) = true:=by simp;omega
   have z2 : (n == 0) = true:=by simp;omega
   have HS:=Lib.hid (HF4.out.trans (if_pos (Or.inl (List.length_eq_zero_iff.mp (by rw [HLc.out];exact hn0)))))
   have HN0:=Lib.hid hn0
   clear hn0
   rcases hr' with t3 | ⟨t3,t4⟩
   all_goals
     go_upto_region 12 with fail
     go_quiet (fail)
     go_wp2_with fail
     try simp only [Exit.inBlock,Exit.then]
     refine post_named (fun X => Blk X b2 [.int .i64 0,.slice none 0 0] ∧ Kept [b2] W X) ⟨?_,?_⟩ ?_
     · exact kbo
     · (repeat' first | (with_reducible assumption) | (with_reducible exact Kept.refl _ _) | (with_reducible refine Kept.alloc ?_ _) | (with_reducible refine Kept.call ?_ (by assumption)) | (with_reducible refine Kept.set ?_ _ _ _ (Or.inl (by simp))) | (with_reducible refine Kept.drew ?_) | (with_reducible refine Kept.drewN ?_ _) | (with_reducible exact hkX0))
     rintro X ⟨BX,hkX⟩
     have ⟨LX,CX,FX⟩:=BX
     have hBX:=hkX.below hB hB.size (by simp;omega)
     refine bodyPost_ret (by simp [results,Tryz.results42,go_sem,CX];try rfl) rfl ?_
     rw [HS.out]
     exact ⟨none,0,0,rfl,SIn.nil _,(fun a ha => by cases ha),hBX⟩
 obtain ⟨c0,r,hcs⟩ : ∃ c0 r,cs = c0 :: r:=by
   cases cs with
   | nil => exact absurd HLc.out (by simp;omega)
   | cons c0 r => exact ⟨c0,r,rfl⟩
 have HCS:=Lib.hid hcs
 clear hcs
 obtain ⟨sb,so,rfl,hsl,hsc⟩:=SV.out.1.2 (by omega)
 have sc:=hsc (n - 1) (by omega)
 rw [show gi cs.reverse (n - 1) = c0 by rw [gi_rev (by rw [HLc.out];omega),HLc.out,show n - 1 - (n - 1) = 0 by omega,HCS.out];rfl] at sc
 have z1 : ((n : Int) == 0) = false:=by simp;omega
 have z2 : (n == 0) = false:=by simp;omega
 have z3 : IntKind.i64.wrap ((n : Int) - 1) = (n : Int) - 1:=IntWalk.i64_in _ (by omega)
 have z4 : (0 : Int) ≤ (n : Int) - 1:=by omega
 have z5 : ((n : Int) - 1).toNat = n - 1:=by omega
 have z6 : (n : Int) - 1 < (n : Int):=by omega
 have z7 : 1 ≤ n:=by omega
 have z8 : (1 : Int) ≤ (n : Int):=by omega
 have z9 : (n : Int) - 1 ≤ (c : Int):=by omega
 have z10 : n - 1 < n:=by omega
 have z11 : (n : Int) ≤ (c : Int) + 1:=by omega
 have z12 : n ≤ c + 1:=by omega
 have z14 : n ≠ 0:=by omega
 have z16 : 0 < n:=by omega
 clear hsc hn0
 by_cases hcc : c0 = ec
 case neg =>
   have y1 : (c0 != ec) = true:=by simpa using hcc
   have HS:=Lib.hid (HF4.out.trans (if_pos (Or.inr (by rw [HCS.out];exact hcc))))
   clear hcc
   rcases hr' with t3 | ⟨t3,t4⟩
   all_goals
     go_upto_region 12 with fail
     go_quiet (fail)
     go_wp2_with fail
     try simp only [Exit.inBlock,Exit.then]
     refine post_named (fun X => Blk X b2 [.int .i64 0,.slice none 0 0] ∧ Kept [b2] W X) ⟨?_,?_⟩ ?_
     · exact kbo
     · (repeat' first | (with_reducible assumption) | (with_reducible exact Kept.refl _ _) | (with_reducible refine Kept.alloc ?_ _) | (with_reducible refine Kept.call ?_ (by assumption)) | (with_reducible refine Kept.set ?_ _ _ _ (Or.inl (by simp))) | (with_reducible refine Kept.drew ?_) | (with_reducible refine Kept.drewN ?_ _) | (with_reducible exact hkX0))
     rintro X ⟨BX,hkX⟩
     have ⟨LX,CX,FX⟩:=BX
     have hBX:=hkX.below hB hB.size (by simp;omega)
     refine bodyPost_ret (by simp [results,Tryz.results42,go_sem,CX];try rfl) rfl ?_
     rw [HS.out]
     exact ⟨none,0,0,rfl,SIn.nil _,(fun a ha => by cases ha),hBX⟩
 have y1 : (c0 != ec) = false:=by simpa using hcc
 have HS : Hid (Sp.stepS es at_ cs x = (0,eb,r)):=by
   show _ = _
   rw [HF4.out,HCS.out,if_neg (fun hh => by rcases hh with hh | hh;cases hh;exact hh (show gi (c0 :: r) 0 = ec from hcc))]
   rfl
 have HT : Hid (cs.reverse.take (n - 1) = r.reverse):=by
   show _ = _
   have:=HLc.out
   rw [HCS.out] at this ⊢
   simp only [List.length_cons] at this
   rw [List.reverse_cons,List.take_append_of_le_length (by simp;omega),List.take_of_length_le (by simp;omega)]
 clear hcc
 rcases hr' with t3 | ⟨t3,t4⟩
 all_goals
   go_upto_region 12 with fail
   go_quiet (fail)
   go_upto_region 14 with fail
   refine wp_named (fun U => Kept [] V U) ((Kept.refl _ _).drewN _) ?_
   intro U hkU
   have hkXU : Kept [b2] W U:=hkX0.next hkU (by simp)
   have ⟨p0,p1,p2⟩:=hkU.blk (by simp) Bg
   have ⟨p3,p4,p5⟩:=hkU.blk (by simp) BV1
   have BU2:=hkU.blk (by simp) BV2
   have ⟨p6,p7,p8⟩:=BU2
   clear CG FG CV0 FV0 CV1 FV1 CV2 FV2 sc
   go_region_o
   go_wp2_with fail
   try simp only [Exit.inBlock,Exit.then]
   refine post_named (fun X => Blk X b2 [.int .i64 eb,.slice (some ⟨sb,so,none⟩) (n - 1) c] ∧ Kept [b2] W X) ⟨?_,?_⟩ ?_
   · exact kbo
   · (repeat' first | (with_reducible assumption) | (with_reducible exact Kept.refl _ _) | (with_reducible refine Kept.alloc ?_ _) | (with_reducible refine Kept.call ?_ (by assumption)) | (with_reducible refine Kept.set ?_ _ _ _ (Or.inl (by simp))) | (with_reducible refine Kept.drew ?_) | (with_reducible refine Kept.drewN ?_ _) | (with_reducible exact hkX0))
   rintro X ⟨BX,hkX⟩
   have ⟨LX,CX,FX⟩:=BX
   have hBX:=hkX.below hB hB.size (by simp;omega)
   refine bodyPost_ret (by simp [results,Tryz.results42,go_sem,CX];try rfl) rfl ?_
   rw [HS.out]
   refine ⟨some ⟨sb,so,none⟩,n - 1,c,rfl,?_,(fun a ha => .inl (by first | exact ⟨a,ha,rfl⟩ | (cases ha;rfl) | (cases ha;simp))),hBX⟩
   have:=(HP.out.later hBX).front (show n - 1 ≤ n by omega)
   rw [HT.out] at this
   exact this
end Go.Proofs.YtincpmdldpakkaaGreatDoor
namespace Go.Df
theorem SIn.drewN' {w : World} {A : Option Addr} {n c : Nat} {xs : List Int} (h : SIn w A n c xs) : SIn w.drew A n c xs:=h
def Sp.atS (er fr : Int) : Int:=if er = 0 then fr else 0
theorem Sp.step_len (es : List Sp.Ed) (a : Int) (cs : List Int) (k : Int) : (Sp.stepS es a cs k).2.2.length ≤ cs.length + 1:=by
 unfold Sp.stepS
 (repeat' split) <;> simp <;> omega
end Go.Df
namespace Go.Proofs.YtincpmdldpakkaaGreatDoor
open Go.RowKit Go.Df
attribute [local go_sem ↓] Go.wp_at_zero Go.wp_at_succ
set_option maxRecDepth 100000 in
set_option maxHeartbeats 2000000 in
theorem rstart_any (A1 A2 : Option Addr) (n1 c1 n2 c2 : Nat) (mn fr : Int) (ns : List Sp.Nd) (es : List Sp.Ed) (er : Int) (her : Sp.chkErr ns es mn fr = er) (w : World) (hg : Gr w A1 n1 A2 n2 ns es) :
   Calls Tryz.prog 40 #[.agg #[.slice A1 n1 c1,.slice A2 n2 c2,.int .i64 mn],.int .i64 fr] w fun e w' =>
     e = .returned (.tuple #[.agg #[.int .i64 (Sp.atS er fr),.slice none 0 0],.int .i64 er]) ∧ Below w.heap.size w w':=by
 have HG:=Lib.hid hg
 have HL:=Lib.hid hg.nd.1
 have HER:=Lib.hid her
 clear hg her
 go_enter Tryz.func40,Tryz.ntmps40
 go_upto_region 1 with fail
 refine wp_named (fun W => ∃ b0 b1,w.heap.size = b0 ∧ w.heap.size + 1 = b1 ∧ Blk W b0 [.slice A1 n1 c1,.slice A2 n2 c2,.int .i64 mn] ∧ Blk W b1 [.int .i64 0,.slice none 0 0] ∧ Below w.heap.size w W) ⟨_,_,rfl,rfl,?_,?_,?_⟩ ?_
 · exact (Blk.new _ _ _ _ (by first | rfl | simp)).alloc _
 · exact kbn
 · go_grown
 rintro W ⟨b0,b1,e0,e1,B0,B1,hB⟩
 rw [e1,e0]
 have G0 : w.heap.size ≤ b0:=by omega
 have n01 : b0 ≠ b1:=by omega
 have G1 : w.heap.size ≤ b1:=by omega
 have n10 : b1 ≠ b0:=by omega
 clear e0 e1
 have ⟨L0,C0,F0⟩:=B0
 have ⟨L1,C1,F1⟩:=B1
 go_wp2_with fail
 refine (rsuper_any _ _ _ _ _ _ _ ns es _ (HG.out.later hB).nd (HG.out.later hB).ed).mono ?_
 rintro e w1 ⟨rfl,hb1⟩
 have hk1 : Kept [] W w1:=(Kept.refl _ _).call hb1
 have hB1:=hk1.below hB hB.size (by simp)
 have BA:=hk1.blk (by simp) B0
 have ⟨LA,CA,FA⟩:=BA
 have BB:=hk1.blk (by simp) B1
 have ⟨LB,CB,FB⟩:=BB
 clear C0 F0 C1 F1
 obtain ⟨se,hse⟩ : ∃ x,Sp.superErr ns es mn = x:=⟨_,rfl⟩
 rw [hse]
 have HC : Hid (er = if se ≠ 0 then se else if fr < 0 ∨ (n1 : Int) ≤ fr then 4 else 0):=by
   show er = _
   rw [← HER.out]
   unfold Sp.chkErr
   rw [hse,HL.out]
 clear hse HER
 by_cases h0 : se = 0
 case neg =>
   have h0' : (se != 0) = true:=by simpa using h0
   have HE2 : Hid (er = se):=HC.out.trans (if_pos h0)
   have H0:=Lib.hid h0
   clear h0
   go_wp2_with fail
   try simp only [Exit.inBlock,Exit.then]
   refine post_named (fun X => Blk X b1 [.int .i64 0,.slice none 0 0] ∧ Kept [b1] w1 X) ⟨?_,?_⟩ ?_
   · exact kbo
   · (repeat' first | (with_reducible assumption) | (with_reducible exact Kept.refl _ _) | (with_reducible refine Kept.alloc ?_ _) | (with_reducible refine Kept.call ?_ (by assumption)) | (with_reducible refine Kept.set ?_ _ _ _ (Or.inl (by simp))) | (with_reducible refine Kept.drew ?_) | (with_reducible refine Kept.drewN ?_ _))
   rintro X ⟨BX,hkX⟩
   have ⟨LX,CX,FX⟩:=BX
   have hBX:=hkX.below hB1 hB1.size (by simp;omega)
   refine bodyPost_ret (by simp [results,Tryz.results40,go_sem,CX];try rfl) rfl ?_
   rw [show er = se from HE2.out,Sp.atS,if_neg H0.out]
   exact ⟨rfl,hBX⟩
 have h0' : (se != 0) = false:=by simpa using h0
 have H0:=Lib.hid h0
 clear h0
 by_cases h1 : fr < 0
 · have d1 : decide (fr < 0) = true:=by simpa using h1
   have HE2 : Hid (er = 4):=by show _ = _;rw [HC.out,if_neg (not_not_intro H0.out),if_pos (by omega)]
   go_wp2_with fail
   try simp only [Exit.inBlock,Exit.then]
   refine post_named (fun X => Blk X b1 [.int .i64 0,.slice none 0 0] ∧ Kept [b1] w1 X) ⟨?_,?_⟩ ?_
   · exact kbo
   · (repeat' first | (with_reducible assumption) | (with_reducible exact Kept.refl _ _) | (with_reducible refine Kept.alloc ?_ _) | (with_reducible refine Kept.call ?_ (by assumption)) | (with_reducible refine Kept.set ?_ _ _ _ (Or.inl (by simp))) | (with_reducible refine Kept.drew ?_) | (with_reducible refine Kept.drewN ?_ _))
   rintro X ⟨BX,hkX⟩
   have ⟨LX,CX,FX⟩:=BX
   have hBX:=hkX.below hB1 hB1.size (by simp;omega)
   refine bodyPost_ret (by simp [results,Tryz.results40,go_sem,CX];try rfl) rfl ?_
   rw [show er = 4 from HE2.out,Sp.atS,if_neg (by omega)]
   exact ⟨rfl,hBX⟩
 have d1 : decide (fr < 0) = false:=by simpa using h1
 by_cases h2 : (n1 : Int) ≤ fr
 · have d2 : decide ((n1 : Int) ≤ fr) = true:=by simpa using h2
   have HE2 : Hid (er = 4):=by show _ = _;rw [HC.out,if_neg (not_not_intro H0.out),if_pos (by omega)]
   go_wp2_with fail
   try simp only [Exit.inBlock,Exit.then]
   refine post_named (fun X => Blk X b1 [.int .i64 0,.slice none 0 0] ∧ Kept [b1] w1 X) ⟨?_,?_⟩ ?_
   · exact kbo
   · (repeat' first | (with_reducible assumption) | (with_reducible exact Kept.refl _ _) | (with_reducible refine Kept.alloc ?_ _) | (with_reducible refine Kept.call ?_ (by assumption)) | (with_reducible refine Kept.set ?_ _ _ _ (Or.inl (by simp))) | (with_reducible refine Kept.drew ?_) | (with_reducible refine Kept.drewN ?_ _))
   rintro X ⟨BX,hkX⟩
   have ⟨LX,CX,FX⟩:=BX
   have hBX:=hkX.below hB1 hB1.size (by simp;omega)
   refine bodyPost_ret (by simp [results,Tryz.results40,go_sem,CX];try rfl) rfl ?_
   rw [show er = 4 from HE2.out,Sp.atS,if_neg (by omega)]
   exact ⟨rfl,hBX⟩
 have d2 : decide ((n1 : Int) ≤ fr) = false:=by simpa using h2
 have HE2 : Hid (er = 0):=by show _ = _;rw [HC.out,if_neg (not_not_intro H0.out),if_neg (by omega)]
 go_wp2_with fail
 try simp only [Exit.inBlock,Exit.then]
 refine post_named (fun X => Blk X b1 [.int .i64 fr,.slice none 0 0] ∧ Kept [b1] w1 X) ⟨?_,?_⟩ ?_
 · exact kbo
 · (repeat' first | (with_reducible assumption) | (with_reducible exact Kept.refl _ _) | (with_reducible refine Kept.alloc ?_ _) | (with_reducible refine Kept.call ?_ (by assumption)) | (with_reducible refine Kept.set ?_ _ _ _ (Or.inl (by simp))) | (with_reducible refine Kept.drew ?_) | (with_reducible refine Kept.drewN ?_ _))
 rintro X ⟨BX,hkX⟩
 have ⟨LX,CX,FX⟩:=BX
 have hBX:=hkX.below hB1 hB1.size (by simp;omega)
 refine bodyPost_ret (by simp [results,Tryz.results40,go_sem,CX];try rfl) rfl ?_
 rw [show er = 0 from HE2.out,Sp.atS,if_pos rfl]
 exact ⟨rfl,hBX⟩
set_option maxRecDepth 100000 in
set_option maxHeartbeats 4000000 in
theorem rrun_any (A1 A2 A3 : Option Addr) (n1 c1 n2 c2 n3 c3 : Nat) (mn fr : Int) (ns : List Sp.Nd) (es : List Sp.Ed) (path : List Int) (w : World) (hg : Gr w A1 n1 A2 n2 ns es) (hp : Ints w A3 n3 path) :
   Calls Tryz.prog 88 #[.agg #[.slice A1 n1 c1,.slice A2 n2 c2,.int .i64 mn],.int .i64 fr,.slice A3 n3 c3] w fun e w' =>
     ∃ A n c,e = .returned (.tuple #[.agg #[.int .i64 (Sp.followS ns es mn fr path).2.1,.slice A n c],.int .i64 (Sp.followS ns es mn fr path).1]) ∧ SIn w' A n c (Sp.followS ns es mn fr path).2.2.reverse ∧ n ≤ 5000 ∧ Below w.heap.size w w':=by
 have HG:=Lib.hid hg
 have HLe:=Lib.hid hg.ed.1
 have HP:=Lib.hid hp
 have HLp:=Lib.hid hp.1
 clear hg hp
 go_enter Tryz.func88,Tryz.ntmps88
 go_upto_region 1 with fail
 refine wp_named (fun W => ∃ b0 b1,w.heap.size = b0 ∧ w.heap.size + 1 = b1 ∧ Blk W b0 [.slice A1 n1 c1,.slice A2 n2 c2,.int .i64 mn] ∧ Blk W b1 [.int .i64 0,.slice none 0 0] ∧ Below w.heap.size w W) ⟨_,_,rfl,rfl,?_,?_,?_⟩ ?_
 · exact (Blk.new _ _ _ _ (by first | rfl | simp)).alloc _
 · exact kbn
 · go_grown
 rintro W ⟨b0,b1,e0,e1,B0,B1,hB⟩
 rw [e1,e0]
 have G0 : w.heap.size ≤ b0:=by omega
 have n01 : b0 ≠ b1:=by omega
 have G1 : w.heap.size ≤ b1:=by omega
 have n10 : b1 ≠ b0:=by omega
 clear e0 e1
 have ⟨L0,C0,F0⟩:=B0
 have ⟨L1,C1,F1⟩:=B1
 obtain ⟨se,hse⟩ : ∃ x,Sp.chkErr ns es mn fr = x:=⟨_,rfl⟩
 have HSE:=Lib.hid hse
 have HC : Hid (Sp.followS ns es mn fr path = if se ≠ 0 then (se,0,[]) else if 4096 < n3 then (3,0,[]) else Sp.runS es fr [] path):=by
   show Sp.followS ns es mn fr path = _
   unfold Sp.followS
   rw [hse,HLp.out]
 clear hse
 go_wp2_with fail
 refine (rstart_any _ _ _ _ _ _ _ _ ns es se HSE.out _ (HG.out.later hB)).mono ?_
 rintro e w1 ⟨rfl,hb1⟩
 obtain ⟨s0,hs0⟩ : ∃ x,Sp.atS se fr = x:=⟨_,rfl⟩
 rw [hs0]
 have HS0:=Lib.hid hs0
 clear hs0
 have hk1 : Kept [] W w1:=(Kept.refl _ _).call hb1
 have hB1:=hk1.below hB hB.size (by simp)
 go_upto_region 2 with fail
 refine wp_named (fun V => ∃ g,w1.heap.size = g ∧ Blk V g [.int .i64 s0,.slice none 0 0] ∧ Kept [] w1 V) ⟨_,rfl,Blk.new _ _ _ _ rfl,(Kept.refl _ _).alloc _⟩ ?_
 rintro V ⟨g,eg,Bg,hkV⟩
 rw [eg]
 have hkWV : Kept [] W V:=keptTrans hk1 hkV
 have hBV:=hkV.below hB1 hB1.size (by simp)
 have BB:=hkWV.blk (by simp) B1
 have ⟨LB,CB,FB⟩:=BB
 have gb0 : b0 ≠ g:=by have:=hk1.size;omega
 have gb1 : b1 ≠ g:=by have:=hk1.size;omega
 have hgw : w.heap.size ≤ g:=by have:=hB1.size;omega
 clear C0 F0 C1 F1 eg
 by_cases h0 : se = 0
 case neg =>
   have h0' : (se != 0) = true:=by simpa using h0
   have HS:=Lib.hid (HC.out.trans (if_pos h0))
   clear h0
   go_wp2_with fail
   try simp only [Exit.inBlock,Exit.then]
   refine post_named (fun X => Blk X b1 [.int .i64 0,.slice none 0 0] ∧ Kept [b1] V X) ⟨?_,?_⟩ ?_
   · exact kbo
   · (repeat' first | (with_reducible assumption) | (with_reducible exact Kept.refl _ _) | (with_reducible refine Kept.alloc ?_ _) | (with_reducible refine Kept.call ?_ (by assumption)) | (with_reducible refine Kept.set ?_ _ _ _ (Or.inl (by simp))) | (with_reducible refine Kept.drew ?_) | (with_reducible refine Kept.drewN ?_ _))
   rintro X ⟨BX,hkX⟩
   have ⟨LX,CX,FX⟩:=BX
   have hBX:=hkX.below hBV hBV.size (by simp;omega)
   refine bodyPost_ret (by simp [results,Tryz.results88,go_sem,CX];try rfl) rfl ?_
   rw [HS.out]
   exact ⟨none,0,0,rfl,SIn.nil _,by omega,hBX⟩
 have h0' : (se != 0) = false:=by simpa using h0
 by_cases hl : 4096 < n3
 · have hl' : decide ((4096 : Int) < (n3 : Int)) = true:=by simp;omega
   have HS:=Lib.hid (HC.out.trans ((if_neg (not_not_intro h0)).trans (if_pos hl)))
   have HS1:=Lib.hid h0
   clear h0
   go_wp2_with fail
   try simp only [Exit.inBlock,Exit.then]
   refine post_named (fun X => Blk X b1 [.int .i64 0,.slice none 0 0] ∧ Kept [b1] V X) ⟨?_,?_⟩ ?_
   · exact kbo
   · (repeat' first | (with_reducible assumption) | (with_reducible exact Kept.refl _ _) | (with_reducible refine Kept.alloc ?_ _) | (with_reducible refine Kept.call ?_ (by assumption)) | (with_reducible refine Kept.set ?_ _ _ _ (Or.inl (by simp))) | (with_reducible refine Kept.drew ?_) | (with_reducible refine Kept.drewN ?_ _))
   rintro X ⟨BX,hkX⟩
   have ⟨LX,CX,FX⟩:=BX
   have hBX:=hkX.below hBV hBV.size (by simp;omega)
   refine bodyPost_ret (by simp [results,Tryz.results88,go_sem,CX];try rfl) rfl ?_
   rw [HS.out]
   exact ⟨none,0,0,rfl,SIn.nil _,by omega,hBX⟩
 have hl' : decide ((4096 : Int) < (n3 : Int)) = false:=by simp;omega
 have HF:=Lib.hid (HC.out.trans ((if_neg (not_not_intro h0)).trans (if_neg hl)))
 have hs2 : Hid (n2 ≤ 1000000):=by
   show n2 ≤ 1000000
   have h1:=HSE.out
   rw [h0] at h1
   have h2:=HLe.out
   have h3:=(Sp.super_len (Sp.chk_ok h1).1).2
   omega
 obtain rfl : s0 = fr:=by have:=HS0.out;rw [Sp.atS,if_pos h0] at this;exact this.symm
 have hse0:=Lib.hid h0
 subst h0
 clear HC HS0
 go_wp2_with fail
 go_loopw [9,10] (fun s9 i wr => ∃ (j : Nat) (a : Int) (cs : List Int) (A : Option Addr) (n c : Nat),j ≤ n3 ∧ s9 = .int .i64 0 ∧ i = .int .i64 j ∧ Kept [g] V wr ∧ Hid (Blk wr g [.int .i64 a,.slice A n c]) ∧ Hid (SIn wr A n c cs.reverse) ∧ Hid (∀ x,A = some x → x.block ≠ g ∧ x.block ≠ b1) ∧ n ≤ j ∧ Hid (Sp.followS ns es mn s0 path = Sp.runS es a cs (path.drop j))) (fun _ i _ => n3 - (intOf i).toNat)
 case atStart => exact ⟨0,s0,[],none,0,0,Nat.zero_le _,rfl,rfl,Kept.refl _ _,Lib.hid Bg,Lib.hid (SIn.nil _),Lib.hid (fun x hx => by cases hx),Nat.le_refl _,HF⟩
 case round =>
   obtain ⟨j,a,cs,A,n,c,hj,rfl,rfl,hkr,bg,sin,apt,hnj,hrun⟩:=hrel
   have hBr : Below w.heap.size w wr:=hkr.below hBV hBV.size (by simp;omega)
   have BA:=hkr.blk (by simp;omega) (hkWV.blk (by simp) B0)
   have ⟨LA,CA,FA⟩:=BA
   have BB:=hkr.blk (by simp;omega) (hkWV.blk (by simp) B1)
   have ⟨LB2,CB2,FB2⟩:=BB
   have ⟨LG,CG,FG⟩:=bg.out
   have BG:=bg.out
   clear CB FB
   by_cases hlt : j < n3
   case neg =>
     obtain rfl : j = n3:=by omega
     clear hlt
     have HS : Hid (Sp.followS ns es mn s0 path = (0,a,cs)):=by
       show Sp.followS ns es mn s0 path = _
       rw [hrun.out,← HLp.out,List.drop_length]
       rfl
     go_wp2_with fail
     try simp only [Exit.inBlock,Exit.then]
     refine post_named (fun X => Blk X b1 [.int .i64 a,.slice A n c] ∧ Kept [b1] wr X) ⟨?_,?_⟩ ?_
     · exact kbo
     · (repeat' first | (with_reducible assumption) | (with_reducible exact Kept.refl _ _) | (with_reducible refine Kept.alloc ?_ _) | (with_reducible refine Kept.call ?_ (by assumption)) | (with_reducible refine Kept.set ?_ _ _ _ (Or.inl (by simp))) | (with_reducible refine Kept.drew ?_) | (with_reducible refine Kept.drewN ?_ _))
     rintro X ⟨BX,hkX⟩
     have ⟨LX,CX,FX⟩:=BX
     have hBX:=hkX.below hBr hBr.size (by simp;omega)
     refine bodyPost_ret (by simp [results,Tryz.results88,go_sem,CX];try rfl) rfl ?_
     rw [HS.out]
     exact ⟨A,n,c,rfl,sin.out.keptX hkX (fun _ x hx => by simpa using (apt.out x hx).2),by omega,hBX⟩
   obtain ⟨pb,po,rfl,hpl,hpc⟩:=HP.out.2 (by omega)
   have pc:=(hBr.cell (p:=⟨pb,_,none⟩) hpl).trans (hpc j hlt)
   have hpg : pb ≠ g:=by omega
   have hplr : pb < wr.heap.size:=Nat.lt_of_lt_of_le hpl hBr.size
   clear hpc
   obtain ⟨k,hk⟩ : ∃ k,gi path j = k:=⟨_,rfl⟩
   rw [hk] at pc
   have HD : Hid (path.drop j = k :: path.drop (j + 1)):=by
     show _ = _
     rw [Sp.drop_gi (by rw [HLp.out];exact hlt),hk]
   clear hk
   obtain ⟨⟨er,a',cs'⟩,hst⟩ : ∃ x,Sp.stepS es a cs k = x:=⟨_,rfl⟩
   have HST:=Lib.hid hst
   have HSL : Hid (cs'.length ≤ cs.length + 1):=by
     show _ ≤ _
     have:=Sp.step_len es a cs k
     rw [hst] at this
     exact this
   clear hst
   have HEr:=Lib.hid ((HG.out.later hBr).ed)
   have SIr:=sin
   have hn5 : n ≤ 1000000:=by omega
   have x3 : (j : Int) < (n3 : Int):=by omega
   go_upto_region 9 with fail
   go_cut [9] (fun s wx => s = .int .i64 er ∧ ∃ (A' : Option Addr) (n' c' : Nat),Blk wx g [.int .i64 a',.slice A' n' c'] ∧ SIn wx A' n' c' cs'.reverse ∧ (∀ x,A' = some x → x.block ≠ g ∧ x.block ≠ b1) ∧ Kept [g] wr wx)
   case first =>
     go_region_with (first | (go_at_call 42;((with_reducible refine (rstep_any _ _ A _ _ _ _ n c _ a k es cs _ (HEr.out.kept (by (exact kpt0))) hs2.out (SIr.out.kept (by (exact kpt0))) hn5).mono ?_));rw [HST.out];rintro e w3 ⟨A',n',c',rfl,hi3,hfr3,hb3⟩;have HI3:=Lib.hid hi3;have HF3:=Lib.hid hfr3;clear hi3 hfr3;have hz3:=hb3.size;have BG3 : Blk w3 g [.int .i64 a,.slice A n c]:=Blk.later (show Blk wr.drew g [.int .i64 a,.slice A n c] from BG) hb3;have ⟨LG3,CG3,FG3⟩:=BG3;have hn3' : BlkN w3 g 2:=BG3.n rfl;clear CG FG;have hkr3 : Kept [] wr w3:=Kept.call (by (exact kpt0)) hb3;try simp at hz3))
     all_goals
       go_wp2_with fail
       go_meet
       have apt3 : ∀ x,A' = some x → x.block ≠ g ∧ x.block ≠ b1:=fun x hx => by
         rcases HF3.out x hx with ⟨a0,h1,h2⟩ | h1
         · rw [h2];exact apt.out a0 h1
         · simp at h1;omega
       have apt4 : ∀ x,A' = some x → x.block ≠ g:=fun x hx => (apt3 x hx).1
       refine ⟨rfl,A',n',c',?_,?_,apt3,?_⟩
       · exact kbo
       · repeat' first | (with_reducible assumption) | (with_reducible refine SIn.drewN' ?_) | (with_reducible refine SIn.two ?_ apt4) | exact HI3.out
       · have hkz : Kept [g] wr w3:=(Kept.refl _ _).next hkr3 (by simp)
         (repeat' first | (with_reducible assumption) | (with_reducible exact Kept.refl _ _) | (with_reducible refine Kept.alloc ?_ _) | (with_reducible refine Kept.call ?_ (by assumption)) | (with_reducible refine Kept.set ?_ _ _ _ (Or.inl (by simp))) | (with_reducible refine Kept.drew ?_) | (with_reducible refine Kept.drewN ?_ _))
   case rest =>
     obtain ⟨rfl,A',n',c',Bgc,sic,aptc,hkc⟩:=hcut
     have ⟨p0,p1,p2⟩:=Bgc
     have BBc:=hkc.blk (by simp;omega) BB
     have ⟨p3,p4,p5⟩:=BBc
     have hkVc : Kept [g] V wc:=hkr.next hkc (by simp)
     have hBc : Below w.heap.size w wc:=hkVc.below hBV hBV.size (by simp;omega)
     have SIC:=Lib.hid sic
     have APC:=Lib.hid aptc
     have hn' : n' ≤ j + 1:=by have h1:=sic.1.1;have h2:=HSL.out;have h3:=sin.out.1.1;simp at h1 h3;omega
     clear CA FA CB2 FB2 CG FG sic aptc pc
     by_cases he0 : er = 0
     case neg =>
       have he' : (er != 0) = true:=by simpa using he0
       have HS : Hid (Sp.followS ns es mn s0 path = (er,0,[])):=by
         show Sp.followS ns es mn s0 path = _
         rw [hrun.out,HD.out,Sp.runS,HST.out,if_pos he0]
       clear he0
       go_wp2_with fail
       try simp only [Exit.inBlock,Exit.then]
       refine post_named (fun X => Blk X b1 [.int .i64 0,.slice none 0 0] ∧ Kept [b1] wc X) ⟨?_,?_⟩ ?_
       · exact kbo
       · (repeat' first | (with_reducible assumption) | (with_reducible exact Kept.refl _ _) | (with_reducible refine Kept.alloc ?_ _) | (with_reducible refine Kept.call ?_ (by assumption)) | (with_reducible refine Kept.set ?_ _ _ _ (Or.inl (by simp))) | (with_reducible refine Kept.drew ?_) | (with_reducible refine Kept.drewN ?_ _))
       rintro X ⟨BX,hkX⟩
       have ⟨LX,CX,FX⟩:=BX
       have hBX:=hkX.below hBc hBc.size (by simp;omega)
       refine bodyPost_ret (by simp [results,Tryz.results88,go_sem,CX];try rfl) rfl ?_
       rw [HS.out]
       exact ⟨none,0,0,rfl,SIn.nil _,by omega,hBX⟩
     have he' : (er != 0) = false:=by simpa using he0
     have HR : Hid (Sp.followS ns es mn s0 path = Sp.runS es a' cs' (path.drop (j + 1))):=by
       show Sp.followS ns es mn s0 path = _
       rw [hrun.out,HD.out,Sp.runS,HST.out,if_neg (not_not_intro he0)]
     subst he0
     go_wp2_with fail
     exact ⟨⟨j + 1,a',cs',A',n',c',by omega,rfl,by go_num,hkVc,Lib.hid Bgc,SIC,APC,by omega,HR⟩,by simp [intOf];omega⟩
set_option maxRecDepth 100000 in
set_option maxHeartbeats 1000000 in
theorem rcheck_any (A1 A2 A3 : Option Addr) (n1 c1 n2 c2 n3 c3 : Nat) (mn fr : Int) (ns : List Sp.Nd) (es : List Sp.Ed) (path : List Int) (w : World) (hg : Gr w A1 n1 A2 n2 ns es) (hp : Ints w A3 n3 path) (er a : Int) (cs : List Int) (hf : Sp.followS ns es mn fr path = (er,a,cs)) :
   Calls Tryz.prog 37 #[.agg #[.slice A1 n1 c1,.slice A2 n2 c2,.int .i64 mn],.int .i64 fr,.slice A3 n3 c3] w fun e w' => e = .returned (.int .i64 er) ∧ Below w.heap.size w w':=by
 have HG:=Lib.hid hg
 have HP:=Lib.hid hp
 have HFo:=Lib.hid hf
 clear hg hp hf
 go_enter Tryz.func37,Tryz.ntmps37
 go_upto_region 1 with fail
 refine wp_named (fun W => ∃ b0,w.heap.size = b0 ∧ Blk W b0 [.slice A1 n1 c1,.slice A2 n2 c2,.int .i64 mn] ∧ Below w.heap.size w W) ⟨_,rfl,?_,?_⟩ ?_
 · exact kbn
 · go_grown
 rintro W ⟨b0,e0,B0,hB⟩
 rw [e0]
 have G0 : w.heap.size ≤ b0:=by omega
 clear e0
 have ⟨L0,C0,F0⟩:=B0
 go_wp2_with fail
 refine (rrun_any _ _ _ _ _ _ _ _ _ _ _ ns es path _ (HG.out.later hB) (HP.out.later hB)).mono ?_
 rw [HFo.out]
 rintro e w1 ⟨A,n,c,rfl,si,hn5,hb1⟩
 have hk1 : Kept [] W w1:=(Kept.refl _ _).call hb1
 have hB1:=hk1.below hB hB.size (by simp)
 have SI:=Lib.hid si
 have HL : Hid (cs.length = n):=by show _ = _;have:=si.1.1;simpa using this
 clear si
 go_wp2_with fail
 go_ret
 exact ⟨rfl,hB1.alloc hB1.size _⟩
end Go.Proofs.YtincpmdldpakkaaGreatDoor
