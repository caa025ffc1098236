/- Texts: Yd Yf. -/
import Derived.Test.YtincpmdldpakkaaGreatDoorMt12
import Derived.Test.YtincpmdldpakkaaGreatDoorMt13
namespace Go.Df.Sp
def outS (es : List Ed) (x : Int) : Nat → List Int
 | 0 => []
 | j + 1 => if (ge es j).a = x then outS es x j ++ [(j : Int)] else outS es x j
theorem outS_len (es : List Ed) (x : Int) : ∀ j,(outS es x j).length ≤ j
 | 0 => Nat.le_refl _
 | j + 1 => by
   unfold outS
   have:=outS_len es x j
   split
   · simp;omega
   · omega
def flt (es : List Ed) (a : Int) (cs l : List Int) : Nat → List Int
 | 0 => []
 | j + 1 => if (stepS es a cs (gi l j)).1 = 0 then flt es a cs l j ++ [gi l j] else flt es a cs l j
theorem flt_len (es : List Ed) (a : Int) (cs l : List Int) : ∀ j,(flt es a cs l j).length ≤ j
 | 0 => Nat.le_refl _
 | j + 1 => by
   unfold flt
   have:=flt_len es a cs l j
   split
   · simp;omega
   · omega
def nextS (es : List Ed) (a : Int) (cs : List Int) : List Int:=flt es a cs (outS es a es.length) (outS es a es.length).length
end Go.Df.Sp
namespace Go.Proofs.YtincpmdldpakkaaGreatDoor
open Go.RowKit Go.Df
attribute [local go_sem ↓] Go.wp_at_zero Go.wp_at_succ
set_option maxRecDepth 100000 in
set_option maxHeartbeats 1000000 in
theorem rout_any (A1 A2 : Option Addr) (n1 c1 n2 c2 : Nat) (mn x : Int) (es : List Sp.Ed) (w : World) (he : Eds w A2 n2 es) (hs : n2 ≤ 1000000) :
   Calls Tryz.prog 91 #[.agg #[.slice A1 n1 c1,.slice A2 n2 c2,.int .i64 mn],.int .i64 x] w fun e w' => ∃ A n c,e = .returned (.slice A n c) ∧ SIn w' A n c (Sp.outS es x n2) ∧ n ≤ n2 ∧ Below w.heap.size w w':=by
 obtain ⟨i0,hi,hz0,hz1,hz2⟩:=info_parts int_info
 have HE:=Lib.hid he
 clear he
 go_enter Tryz.func91,Tryz.ntmps91
 go_upto_region 1 with fail
 refine wp_named (fun W => ∃ b0,w.heap.size = b0 ∧ Blk W b0 [.slice A1 n1 c1,.slice A2 n2 c2,.int .i64 mn] ∧ Below w.heap.size w W) ⟨_,rfl,?_,?_⟩ ?_
 · exact kbn
 · go_grown
 rintro W ⟨b0,e0,B0,hB⟩
 rw [e0]
 have G0 : w.heap.size ≤ b0:=by omega
 clear e0
 have ⟨L0,C0,F0⟩:=B0
 go_wp2_with fail
 go_loopw [5,6] (fun s5 s6 wr => ∃ (j N : Nat) (A : Option Addr) (c : Nat),j ≤ n2 ∧ s5 = .slice A N c ∧ s6 = .int .i64 j ∧ Kept [] W wr ∧ Hid (wr.ownsRow W.heap.size 3 1 (.slice A N c) N ((Sp.outS es x j).map (Value.int .i64)))) (fun _ i _ => n2 - (intOf i).toNat)
 case atStart => exact ⟨0,0,none,0,Nat.zero_le _,rfl,rfl,Kept.refl _ _,Lib.hid (World.ownsRow_nil _ _ _ _)⟩
 case round =>
   obtain ⟨j,N,A,c,hj,rfl,rfl,hkr,own⟩:=hrel
   have HN : Hid ((Sp.outS es x j).length = N):=by show _ = _;have:=own.out.1;simpa using this
   have hNj : N ≤ j:=by have:=HN.out;have:=Sp.outS_len es x j;omega
   have hBr:=hkr.below hB hB.size (by simp)
   have ⟨LR,CR,FR⟩:=hkr.blk (by simp) B0
   have hsz:=hkr.size
   clear C0 F0
   by_cases hlt : j < n2
   · obtain ⟨b,o,rfl,hl,hc⟩:=(HE.out.later hBr).2 (by omega)
     obtain ⟨h1,h2,h3,h4⟩:=hc j hlt
     clear hc
     obtain ⟨ea,eb,ek,ec,en⟩ : ∃ ea eb ek ec,ge es j = ⟨ea,eb,ek,ec⟩:=⟨_,_,_,_,rfl⟩
     rw [en] at h1 h2 h3 h4
     have HEe:=Lib.hid en
     clear en
     clear h2 h3 h4
     by_cases e1 : ea = x
     · have e1' : (ea == x) = true:=by simpa using e1
       have HAP : Hid ((Sp.outS es x j).map (Value.int .i64) ++ [.int .i64 (j : Int)] = (Sp.outS es x (j + 1)).map (Value.int .i64)):=by
         show _ = _
         rw [Sp.outS,HEe.out,if_pos e1,List.map_append]
         rfl
       clear e1
       go_wp2_with (first | (at_builtin;refine wpList_append_rd _ rfl _ _ 30 rfl W.heap.size 3 i0 (.int .i64 0) 1 8 Tryz.underlying30 hi hz0 hz1 hz2 rfl (by decide) (.slice A N c) N ((Sp.outS es x j).map (Value.int .i64)) rfl (own_alloc own.out _) (some ⟨wr.heap.size,0,none⟩) 1 1 [.int .i64 (j : Int)] rfl (Rd.new1 _ _ _ _ rfl) (fun h => by cases h) (by intro u hu;simp at hu;subst hu;rfl) (N + 1) rfl ((Sp.outS es x (j + 1)).map (Value.int .i64)) HAP.out (by unfold maxLen;omega) (by omega) (by simp;omega) ?_;intro A9 c9 w4 hown4 hk4 hat4;have HX : Hid (∀ y ∈ (Value.slice A N c).ownBlock.toList,W.heap.size ≤ y):=(fun y hy => own_ge own.out (by simpa using hy));have hk5:=Lib.hid ((hkr.alloc (.cells #[.int .i64 (j : Int)] 3)).next hk4 (fun y hy => Or.inr (HX.out y hy)));have HO4:=Lib.hid hown4;clear hown4 hk4 hat4))
       exact ⟨⟨j + 1,N + 1,A9,c9,by omega,rfl,by go_num,hk5.out,HO4⟩,by simp [intOf];omega⟩
     · have e1' : (ea == x) = false:=by simpa using e1
       have HAP : Hid (Sp.outS es x (j + 1) = Sp.outS es x j):=by
         show _ = _
         rw [Sp.outS,HEe.out,if_neg e1]
       clear e1
       go_wp2_with fail
       exact ⟨⟨j + 1,N,A,c,by omega,rfl,by go_num,hkr,Lib.hid (by rw [HAP.out];exact own.out)⟩,by simp [intOf];omega⟩
   · obtain rfl : j = n2:=by omega
     obtain ⟨A',c',hv',hin,-⟩:=SIn.of_own own.out
     injection hv' with e1 e2 e3
     subst e1
     subst e3
     have HIN:=Lib.hid hin
     clear hin hlt
     go_wp2_with fail
     go_ret
     exact ⟨A,N,c,rfl,HIN.out,hNj,hBr⟩
set_option maxRecDepth 100000 in
set_option maxHeartbeats 2000000 in
theorem rfollow_any (A1 A2 B : Option Addr) (n1 c1 n2 c2 n d : Nat) (mn a : Int) (es : List Sp.Ed) (cs : List Int) (w : World) (he : Eds w A2 n2 es) (hs : n2 ≤ 1000000) (hp : SIn w B n d cs.reverse) (hn : n ≤ 1000000) :
   Calls Tryz.prog 41 #[.agg #[.slice A1 n1 c1,.slice A2 n2 c2,.int .i64 mn],.agg #[.int .i64 a,.slice B n d]] w fun e w' => ∃ A m c,e = .returned (.slice A m c) ∧ SIn w' A m c (Sp.nextS es a cs) ∧ m ≤ 1000000 ∧ (∀ y,A = some y → w.heap.size ≤ y.block ∧ y.block < w'.heap.size) ∧ Below w.heap.size w w':=by
 obtain ⟨i0,hi,hz0,hz1,hz2⟩:=info_parts int_info
 have HE:=Lib.hid he
 have HL:=Lib.hid he.1
 have HP:=Lib.hid hp
 clear he hp
 go_enter Tryz.func41,Tryz.ntmps41
 go_upto_region 1 with fail
 refine wp_named (fun W => ∃ b0 b1,w.heap.size = b0 ∧ w.heap.size + 1 = b1 ∧ Blk W b0 [.slice A1 n1 c1,.slice A2 n2 c2,.int .i64 mn] ∧ Blk W b1 [.int .i64 a,.slice B n d] ∧ Below w.heap.size w W) ⟨_,_,rfl,rfl,?_,?_,?_⟩ ?_
 · exact (Blk.new _ _ _ _ (by first | rfl | simp)).alloc _
 · exact kbn
 · go_grown
 rintro W ⟨b0,b1,e0,e1,B0,B1,hB⟩
 rw [e1,e0]
 have G0 : w.heap.size ≤ b0:=by omega
 have n01 : b0 ≠ b1:=by omega
 have G1 : w.heap.size ≤ b1:=by omega
 have n10 : b1 ≠ b0:=by omega
 clear e0 e1
 have ⟨L0,C0,F0⟩:=B0
 have ⟨L1,C1,F1⟩:=B1
 go_wp2_with fail
 refine (rout_any _ _ _ _ _ _ _ a es _ (HE.out.later hB) hs).mono ?_
 rintro e V ⟨B2,q,d2,rfl,si,hq,hb1⟩
 have hkV : Kept [] W V:=(Kept.refl _ _).call hb1
 have hBV:=hkV.below hB hB.size (by simp)
 obtain ⟨l,hl⟩ : ∃ l,Sp.outS es a n2 = l:=⟨_,rfl⟩
 rw [hl] at si
 have HLl : Hid (l.length = q):=si.1.1
 have HNX : Hid (Sp.nextS es a cs = Sp.flt es a cs l q):=by
   show _ = _
   unfold Sp.nextS
   rw [HL.out,hl,HLl.out]
 have SI:=Lib.hid si
 clear C0 F0 C1 F1 si hl
 go_wp2_with fail
 go_loopw [5,7] (fun s5 s7 wr => ∃ (j N : Nat) (A : Option Addr) (c : Nat),j ≤ q ∧ s5 = .slice A N c ∧ s7 = .int .i64 j ∧ Kept [] V wr ∧ Hid (wr.ownsRow V.heap.size 3 1 (.slice A N c) N ((Sp.flt es a cs l j).map (Value.int .i64)))) (fun _ i _ => q - (intOf i).toNat)
 case atStart => exact ⟨0,0,none,0,Nat.zero_le _,rfl,rfl,Kept.refl _ _,Lib.hid (World.ownsRow_nil _ _ _ _)⟩
 case round =>
   obtain ⟨j,N,A,c,hj,rfl,rfl,hkr,own⟩:=hrel
   have HN : Hid ((Sp.flt es a cs l j).length = N):=by show _ = _;have:=own.out.1;simpa using this
   have hNj : N ≤ j:=by have:=HN.out;have:=Sp.flt_len es a cs l j;omega
   have hBr:=hkr.below hBV hBV.size (by simp)
   have hkWr : Kept [] W wr:=keptTrans hkV hkr
   have BR0:=hkWr.blk (by simp) B0
   have ⟨LR0,CR0,FR0⟩:=BR0
   have BR1:=hkWr.blk (by simp) B1
   have ⟨LR1,CR1,FR1⟩:=BR1
   have hsz:=hkr.size
   by_cases hlt : j < q
   · obtain ⟨pb,po,rfl,hpl,hpc⟩:=(SI.out.1.kept hkr).2 (by omega)
     have pc:=hpc j hlt
     clear hpc
     obtain ⟨k,hk⟩ : ∃ k,gi l j = k:=⟨_,rfl⟩
     rw [hk] at pc
     have HK:=Lib.hid hk
     clear hk
     obtain ⟨⟨er,a',cs'⟩,hst⟩ : ∃ x,Sp.stepS es a cs k = x:=⟨_,rfl⟩
     have HST:=Lib.hid hst
     have HEr:=Lib.hid (HE.out.later hBr)
     have SIr:=Lib.hid (HP.out.later hBr)
     have x3 : (j : Int) < (q : Int):=by omega
     clear hst
     go_upto_region 6 with fail
     go_cut [9] (fun s wx => s = .int .i64 er ∧ Kept [] wr wx)
     case first =>
       go_region_held3 (fun w' => SX0 wr w') (exact kp0)
         (first | (go_at_call 42;((with_reducible refine (rstep_any _ _ B _ _ _ _ n d _ a k es cs _ (HEr.out.kept (by (exact kpt0))) hs (SIr.out.kept (by (exact kpt0))) hn).mono ?_));rw [HST.out];rintro e w3 ⟨A3,n3,c3,rfl,-,-,hb3⟩;obtain ⟨hc3,hf3,hg3⟩:=bcell hb3;have hz3:=hb3.size;try simp at hz3))
       all_goals
         go_wp2_with fail
         go_meet
         refine ⟨rfl,?_⟩
         (exact kpt0)
     case rest =>
       obtain ⟨rfl,hkc⟩:=hcut
       have hkVc : Kept [] V wc:=keptTrans hkr hkc
       have hBc:=hkVc.below hBV hBV.size (by simp)
       have ownC:=Lib.hid (own_keptX own.out hkc (by simp))
       have pcC:=(hkc.cell pb _ hpl (by simp)).trans pc
       have hplC:=Nat.lt_of_lt_of_le hpl hkc.size
       have hszc:=hkVc.size
       clear CR0 FR0 CR1 FR1 pc own
       by_cases he0 : er = 0
       · have he' : (er == 0) = true:=by simpa using he0
         have HAP : Hid ((Sp.flt es a cs l j).map (Value.int .i64) ++ [.int .i64 k] = (Sp.flt es a cs l (j + 1)).map (Value.int .i64)):=by
           show _ = _
           rw [Sp.flt,HK.out,HST.out,if_pos he0,List.map_append]
           rfl
         clear he0
         go_wp2_with (first | (at_builtin;refine wpList_append_rd _ rfl _ _ 30 rfl V.heap.size 3 i0 (.int .i64 0) 1 8 Tryz.underlying30 hi hz0 hz1 hz2 rfl (by decide) (.slice A N c) N ((Sp.flt es a cs l j).map (Value.int .i64)) rfl (own_alloc ownC.out _) (some ⟨wc.heap.size,0,none⟩) 1 1 [.int .i64 k] rfl (Rd.new1 _ _ _ _ rfl) (fun h => by cases h) (by intro u hu;simp at hu;subst hu;rfl) (N + 1) rfl ((Sp.flt es a cs l (j + 1)).map (Value.int .i64)) HAP.out (by unfold maxLen;omega) (by omega) (by simp;omega) ?_;intro A9 c9 w4 hown4 hk4 hat4;have HX : Hid (∀ y ∈ (Value.slice A N c).ownBlock.toList,V.heap.size ≤ y):=(fun y hy => own_ge ownC.out (by simpa using hy));have hk5:=Lib.hid ((hkVc.alloc (.cells #[.int .i64 k] 3)).next hk4 (fun y hy => Or.inr (HX.out y hy)));have HO4:=Lib.hid hown4;clear hown4 hk4 hat4))
         exact ⟨⟨j + 1,N + 1,A9,c9,by omega,rfl,by go_num,hk5.out,HO4⟩,by simp [intOf];omega⟩
       · have he' : (er == 0) = false:=by simpa using he0
         have HAP : Hid (Sp.flt es a cs l (j + 1) = Sp.flt es a cs l j):=by
           show _ = _
           rw [Sp.flt,HK.out,HST.out,if_neg he0]
         clear he0
         go_wp2_with fail
         exact ⟨⟨j + 1,N,A,c,by omega,rfl,by go_num,hkVc,Lib.hid (by rw [HAP.out];exact ownC.out)⟩,by simp [intOf];omega⟩
   · obtain rfl : j = q:=by omega
     obtain ⟨A',c',hv',hin,hge⟩:=SIn.of_own own.out
     injection hv' with e1 e2 e3
     subst e1
     subst e3
     have HIN:=Lib.hid hin
     have HGE:=Lib.hid hge
     clear hin hlt hge
     go_wp2_with fail
     go_ret
     exact ⟨A,N,c,rfl,by rw [HNX.out];exact HIN.out,by omega,(fun y hy => ⟨by have:=(HGE.out y hy).1;have:=hBV.size;omega,(HGE.out y hy).2⟩),hBr⟩
end Go.Proofs.YtincpmdldpakkaaGreatDoor
namespace Go.Df
open Go.RowKit
namespace Sp
theorem runS_ok2 {es : List Ed} {a k : Int} {cs r : List Int} (h : (stepS es a cs k).1 = 0) : runS es a cs (k :: r) = runS es (stepS es a cs k).2.1 (stepS es a cs k).2.2 r:=by
 rw [runS,if_neg (not_not_intro h)]
theorem runS_bad2 {es : List Ed} {a k : Int} {cs r : List Int} (h : (stepS es a cs k).1 ≠ 0) : runS es a cs (k :: r) = ((stepS es a cs k).1,0,[]):=by
 rw [runS,if_pos h]
theorem run_snoc2 {es : List Ed} : ∀ (xs : List Int) (a : Int) (cs : List Int) (k : Int),runS es a cs (xs ++ [k]) = if (runS es a cs xs).1 ≠ 0 then runS es a cs xs else stepS es (runS es a cs xs).2.1 (runS es a cs xs).2.2 k
 | [],a,cs,k => by
   have h0 : runS es a cs [] = (0,a,cs):=rfl
   rw [h0,List.nil_append,if_neg (by simp)]
   by_cases h : (stepS es a cs k).1 = 0
   · rw [runS_ok2 h]
     exact Prod.ext h.symm rfl
   · rw [runS_bad2 h]
     exact (stepS_err h).symm
 | x :: xs,a,cs,k => by
   rw [List.cons_append]
   by_cases h : (stepS es a cs x).1 = 0
   · rw [runS_ok2 h,runS_ok2 h]
     exact run_snoc2 xs _ _ k
   · rw [runS_bad2 h,runS_bad2 h,if_pos h]
theorem step_ok2 {es : List Ed} {a k : Int} {cs : List Int} (h : (stepS es a cs k).1 = 0) : ∃ x : Nat,k = x ∧ x < es.length ∧ (ge es x).a = a ∧
   ((((ge es x).k = 3 ∨ (ge es x).k = 4) ∧ ∃ r,cs = (ge es x).c :: r ∧ stepS es a cs k = (0,(ge es x).b,r)) ∨
    ((ge es x).k = 2 ∧ stepS es a cs k = (0,(ge es x).b,a :: cs)) ∨
    ((ge es x).k ≠ 2 ∧ (ge es x).k ≠ 3 ∧ (ge es x).k ≠ 4 ∧ stepS es a cs k = (0,(ge es x).b,cs))):=by
 by_cases h1 : k < 0 ∨ (es.length : Int) ≤ k
 · unfold stepS at h
   rw [if_pos h1] at h
   cases h
 · obtain ⟨x,rfl⟩:=Int.eq_ofNat_of_zero_le (show 0 ≤ k by omega)
   refine ⟨x,rfl,by omega,?_⟩
   unfold stepS at h ⊢
   rw [if_neg h1,Int.toNat_natCast] at h ⊢
   by_cases h2 : (ge es x).a ≠ a
   · rw [if_pos h2] at h
     cases h
   · rw [if_neg h2] at h ⊢
     refine ⟨Classical.not_not.mp h2,?_⟩
     by_cases h3 : (ge es x).k = 3 ∨ (ge es x).k = 4
     · rw [if_pos h3] at h ⊢
       left
       refine ⟨h3,?_⟩
       by_cases h4 : cs = [] ∨ gi cs 0 ≠ (ge es x).c
       · rw [if_pos h4] at h
         cases h
       · rw [if_neg h4]
         cases cs with
         | nil => exact absurd (Or.inl rfl) h4
         | cons c r =>
           have : c = (ge es x).c:=Classical.byContradiction (fun hh => h4 (Or.inr hh))
           exact ⟨r,by rw [this],rfl⟩
     · rw [if_neg h3] at h ⊢
       right
       by_cases h4 : (ge es x).k = 2
       · rw [if_pos h4]
         exact .inl ⟨h4,rfl⟩
       · rw [if_neg h4]
         exact .inr ⟨h4,fun hh => h3 (.inl hh),fun hh => h3 (.inr hh),rfl⟩
theorem flt_mem {es : List Ed} {a : Int} {cs l : List Int} {k : Int} : ∀ {j : Nat},j ≤ l.length → (k ∈ flt es a cs l j ↔ ∃ i,i < j ∧ gi l i = k ∧ (stepS es a cs k).1 = 0)
 | 0,_ => by simp [flt]
 | j + 1,h => by
   have ih:=flt_mem (es:=es) (a:=a) (cs:=cs) (l:=l) (k:=k) (j:=j) (by omega)
   unfold flt
   constructor
   · intro hm
     have hm' : k ∈ flt es a cs l j ∨ ((stepS es a cs (gi l j)).1 = 0 ∧ k = gi l j):=by
       split at hm
       · rename_i h0
         rcases List.mem_append.1 hm with h1 | h1
         · exact .inl h1
         · exact .inr ⟨h0,by simpa using h1⟩
       · exact .inl hm
     rcases hm' with h1 | ⟨h1,rfl⟩
     · obtain ⟨i,hi,e,hs⟩:=ih.1 h1
       exact ⟨i,by omega,e,hs⟩
     · exact ⟨j,by omega,rfl,h1⟩
   · rintro ⟨i,hi,rfl,hs⟩
     by_cases e : i = j
     · subst e
       rw [if_pos hs]
       simp
     · have:=ih.2 ⟨i,by omega,rfl,hs⟩
       split
       · exact List.mem_append.2 (.inl this)
       · exact this
theorem outS_mem {es : List Ed} {x k : Int} : ∀ {j : Nat},k ∈ outS es x j ↔ ∃ i : Nat,i < j ∧ k = i ∧ (ge es i).a = x
 | 0 => by simp [outS]
 | j + 1 => by
   have ih:=outS_mem (es:=es) (x:=x) (k:=k) (j:=j)
   unfold outS
   constructor
   · intro hm
     have hm' : k ∈ outS es x j ∨ ((ge es j).a = x ∧ k = j):=by
       split at hm
       · rename_i h0
         rcases List.mem_append.1 hm with h1 | h1
         · exact .inl h1
         · exact .inr ⟨h0,by simpa using h1⟩
       · exact .inl hm
     rcases hm' with h1 | ⟨h1,rfl⟩
     · obtain ⟨i,hi,e,hs⟩:=ih.1 h1
       exact ⟨i,by omega,e,hs⟩
     · exact ⟨j,by omega,rfl,h1⟩
   · rintro ⟨i,hi,rfl,hs⟩
     by_cases e : i = j
     · subst e
       rw [if_pos hs]
       simp
     · have:=ih.2 ⟨i,by omega,rfl,hs⟩
       split
       · exact List.mem_append.2 (.inl this)
       · exact this
theorem nextS_mem {es : List Ed} {a : Int} {cs : List Int} {k : Int} : k ∈ nextS es a cs ↔ (stepS es a cs k).1 = 0:=by
 unfold nextS
 rw [flt_mem (Nat.le_refl _)]
 constructor
 · rintro ⟨_,_,_,h⟩;exact h
 · intro h
   obtain ⟨x,rfl,hx,ha,_⟩:=step_ok2 h
   have hm : (x : Int) ∈ outS es a es.length:=outS_mem.2 ⟨x,hx,rfl,ha⟩
   obtain ⟨i,hi,e⟩:=List.getElem_of_mem hm
   exact ⟨i,hi,by rw [gi_lt hi];exact e,h⟩
structure It where
 pa : List Int
 at_ : Int
 cs : List Int
def nextI (es : List Ed) (x : It) (k : Int) : It:=⟨x.pa ++ [k],(stepS es x.at_ x.cs k).2.1,(stepS es x.at_ x.cs k).2.2⟩
def sucI (es : List Ed) (x : It) : List It:=(nextS es x.at_ x.cs).map (nextI es x)
def rndI (es : List Ed) (count : Nat) (s : List (List Int) × List It) : List (List Int) × List It :=
 (s.1 ++ (s.2.take (count - s.1.length)).map It.pa,((s.2.take (count - s.1.length)).flatMap (sucI es)).take count)
def itI (es : List Ed) (count : Nat) (a : Int) : Nat → List (List Int) × List It
 | 0 => ([],[⟨[],a,[]⟩])
 | n + 1 => rndI es count (itI es count a n)
theorem stepS_cs {es : List Ed} {a k : Int} {cs : List Int} : (stepS es a cs k).2.2.length ≤ cs.length + 1:=by
 unfold stepS
 (repeat' split) <;> simp <;> omega
section
variable {es : List Ed} {count : Nat} {a : Int}
theorem itI_out_len : ∀ n,(itI es count a n).1.length ≤ count
 | 0 => Nat.zero_le _
 | n + 1 => by
   have:=itI_out_len n
   show (rndI es count (itI es count a n)).1.length ≤ count
   unfold rndI
   simp
   omega
theorem itI_now_len : ∀ n,(itI es count a n).2.length ≤ count + 1
 | 0 => by simp [itI]
 | n + 1 => by
   show (rndI es count (itI es count a n)).2.length ≤ count + 1
   unfold rndI
   simp
   omega
theorem itI_path : ∀ n,∀ x ∈ (itI es count a n).2,x.pa.length = n ∧ x.cs.length ≤ n
 | 0,x,h => by
   have : x = ⟨[],a,[]⟩:=by simpa [itI] using h
   subst this
   exact ⟨rfl,Nat.le_refl _⟩
 | n + 1,x,h => by
   have h : x ∈ (rndI es count (itI es count a n)).2:=h
   unfold rndI at h
   have h:=List.mem_of_mem_take h
   obtain ⟨y,hy,hx⟩:=List.mem_flatMap.1 h
   have h9:=itI_path n y (List.mem_of_mem_take hy)
   obtain ⟨k,_,rfl⟩:=List.mem_map.1 hx
   have:=stepS_cs (es:=es) (a:=y.at_) (k:=k) (cs:=y.cs)
   refine ⟨by show (y.pa ++ [k]).length = _;simp [h9.1],?_⟩
   show (stepS es y.at_ y.cs k).2.2.length ≤ _
   omega
theorem itI_out_path : ∀ n,∀ p ∈ (itI es count a n).1,p.length < n
 | 0,p,h => by simp [itI] at h
 | n + 1,p,h => by
   have h : p ∈ (rndI es count (itI es count a n)).1:=h
   unfold rndI at h
   rcases List.mem_append.1 h with h | h
   · have:=itI_out_path n p h;omega
   · obtain ⟨x,hx,rfl⟩:=List.mem_map.1 h
     have:=itI_path n x (List.mem_of_mem_take hx)
     omega
theorem itI_stop {n : Nat} (h : (itI es count a n).2 = [] ∨ count ≤ (itI es count a n).1.length) : ∀ m,(itI es count a (n + m)).1 = (itI es count a n).1 ∧ ((itI es count a (n + m)).2 = [] ∨ count ≤ (itI es count a (n + m)).1.length)
 | 0 => ⟨rfl,h⟩
 | m + 1 => by
   obtain ⟨h1,h2⟩:=itI_stop h m
   have e : itI es count a (n + (m + 1)) = rndI es count (itI es count a (n + m)):=rfl
   have h3 : (itI es count a (n + m)).2.take (count - (itI es count a (n + m)).1.length) = []:=by
     rcases h2 with h2 | h2
     · rw [h2];simp
     · rw [show count - (itI es count a (n + m)).1.length = 0 by omega];simp
   rw [e]
   unfold rndI
   rw [h3]
   exact ⟨by simpa using h1,.inl (by simp)⟩
theorem itI_sound : ∀ n,∀ x ∈ (itI es count a n).2,runS es a [] x.pa = (0,x.at_,x.cs)
 | 0,x,h => by
   have : x = ⟨[],a,[]⟩:=by simpa [itI] using h
   subst this
   rfl
 | n + 1,x,h => by
   have h : x ∈ (rndI es count (itI es count a n)).2:=h
   unfold rndI at h
   have h:=List.mem_of_mem_take h
   obtain ⟨y,hy,hx⟩:=List.mem_flatMap.1 h
   have h9:=itI_sound n y (List.mem_of_mem_take hy)
   obtain ⟨k,hk,rfl⟩:=List.mem_map.1 hx
   show runS es a [] (y.pa ++ [k]) = _
   rw [run_snoc2,if_neg (by rw [h9];simp),h9]
   have h0:=nextS_mem.1 hk
   show stepS es y.at_ y.cs k = (0,(stepS es y.at_ y.cs k).2.1,(stepS es y.at_ y.cs k).2.2)
   rw [← h0]
theorem itI_out_sound : ∀ n,∀ p ∈ (itI es count a n).1,(runS es a [] p).1 = 0
 | 0,p,h => by simp [itI] at h
 | n + 1,p,h => by
   have h : p ∈ (rndI es count (itI es count a n)).1:=h
   unfold rndI at h
   rcases List.mem_append.1 h with h | h
   · exact itI_out_sound n p h
   · obtain ⟨x,hx,rfl⟩:=List.mem_map.1 h
     rw [itI_sound n x (List.mem_of_mem_take hx)]
theorem itI_mono (n : Nat) : (itI es count a n).1.length ≤ (itI es count a (n + 1)).1.length:=by
 show _ ≤ (rndI es count (itI es count a n)).1.length
 unfold rndI
 simp
theorem itI_monoL {m n : Nat} (h : m ≤ n) : (itI es count a m).1.length ≤ (itI es count a n).1.length:=by
 induction h with
 | refl => exact Nat.le_refl _
 | step _ ih => exact Nat.le_trans ih (itI_mono _)
theorem itI_sub {m n : Nat} (h : m ≤ n) {p : List Int} (hp : p ∈ (itI es count a m).1) : p ∈ (itI es count a n).1:=by
 induction h with
 | refl => exact hp
 | @step n _ ih =>
   show p ∈ (rndI es count (itI es count a n)).1
   unfold rndI
   exact List.mem_append.2 (.inl ih)
theorem itI_whole {n : Nat} (h : (itI es count a (n + 1)).1.length < count) : (itI es count a n).1.length + (itI es count a n).2.length = (itI es count a (n + 1)).1.length ∧ (itI es count a n).2.take (count - (itI es count a n).1.length) = (itI es count a n).2:=by
 have h1 : (itI es count a (n + 1)).1.length = (rndI es count (itI es count a n)).1.length:=rfl
 unfold rndI at h1
 simp at h1
 exact ⟨by omega,List.take_of_length_le (by omega)⟩
theorem itI_full : ∀ (m : Nat),(itI es count a (m + 1)).1.length < count → ∀ (p : List Int) (n : Int) (cs : List Int),p.length = m → runS es a [] p = (0,n,cs) → ⟨p,n,cs⟩ ∈ (itI es count a m).2
 | 0,_,p,n,cs,hl,h => by
   obtain rfl : p = []:=List.length_eq_zero_iff.1 hl
   rw [runS] at h
   injection h with _ h
   injection h with h1 h2
   subst h1 h2
   simp [itI]
 | m + 1,hc,p,n,cs,hl,h => by
   rcases List.eq_nil_or_concat p with e | ⟨q,k,e⟩
   · rw [e] at hl;simp at hl
   · rw [List.concat_eq_append] at e
     subst e
     have hq : q.length = m:=by simpa using hl
     have hm1 : (itI es count a (m + 1)).1.length < count:=Nat.lt_of_le_of_lt (itI_mono _) hc
     rw [run_snoc2] at h
     by_cases h0 : (runS es a [] q).1 = 0
     case neg =>
       rw [if_pos h0] at h
       rw [h] at h0
       exact absurd rfl h0
     rw [if_neg (not_not_intro h0)] at h
     have ih:=itI_full m hm1 q (runS es a [] q).2.1 (runS es a [] q).2.2 hq (by rw [← h0])
     generalize (runS es a [] q).2.1 = n1 at h ih
     generalize (runS es a [] q).2.2 = c1 at h ih
     have hk : k ∈ nextS es n1 c1:=nextS_mem.2 (by rw [h])
     have hx : (⟨q ++ [k],n,cs⟩ : It) ∈ sucI es ⟨q,n1,c1⟩:=List.mem_map.2 ⟨k,hk,by unfold nextI;rw [h]⟩
     have h5:=itI_whole hm1
     have h6:=itI_whole hc
     have e : (itI es count a (m + 1)).2 = ((itI es count a m).2.flatMap (sucI es)).take count:=by
       show (rndI es count (itI es count a m)).2 = _
       unfold rndI
       rw [h5.2]
     have hlen : ((itI es count a m).2.flatMap (sucI es)).length < count:=by
       have h7 : (itI es count a (m + 1)).2.length < count:=by omega
       rw [e,List.length_take] at h7
       omega
     rw [e,List.take_of_length_le (by omega)]
     exact List.mem_flatMap.2 ⟨_,ih,hx⟩
theorem itI_all {n : Nat} (h : (itI es count a (n + 1)).1.length < count) (he : (itI es count a n).1.length = (itI es count a (n + 1)).1.length) (p : List Int) (hp : (runS es a [] p).1 = 0) : p ∈ (itI es count a n).1:=by
 have hn : (itI es count a n).2 = []:=List.length_eq_zero_iff.1 (by have:=(itI_whole h).1;omega)
 have hpre : ∀ (r q : List Int),(runS es a [] (q ++ r)).1 = 0 → (runS es a [] q).1 = 0:=by
   intro r
   induction r with
   | nil => intro q h;simpa using h
   | cons y r ih =>
     intro q h
     have h1:=ih (q ++ [y]) (by simpa using h)
     rw [run_snoc2] at h1
     by_cases h0 : (runS es a [] q).1 = 0
     · exact h0
     · rw [if_pos h0] at h1;exact h1
 have hfull : ∀ m,m ≤ n → ∀ q : List Int,q.length = m → (runS es a [] q).1 = 0 → (⟨q,(runS es a [] q).2.1,(runS es a [] q).2.2⟩ : It) ∈ (itI es count a m).2:=fun m hm q hq h0 => by
   refine itI_full m (Nat.lt_of_le_of_lt (itI_monoL (by omega)) h) q _ _ hq ?_
   rw [← h0]
 have hl : p.length < n:=by
   refine Nat.lt_of_not_le fun hle => ?_
   have e : p.take n ++ p.drop n = p:=List.take_append_drop n p
   have h1:=hfull n (Nat.le_refl _) (p.take n) (by rw [List.length_take];omega) (hpre (p.drop n) _ (by rw [e];exact hp))
   rw [hn] at h1
   simp at h1
 have h2:=hfull p.length (by omega) p rfl hp
 refine itI_sub (m:=p.length + 1) (by omega) ?_
 show p ∈ (rndI es count (itI es count a p.length)).1
 have h3:=itI_whole (es:=es) (count:=count) (a:=a) (n:=p.length) (Nat.lt_of_le_of_lt (itI_monoL (by omega)) h)
 unfold rndI
 rw [h3.2]
 exact List.mem_append.2 (.inr (List.mem_map.2 ⟨_,h2,rfl⟩))
end
end Sp
end Go.Df
