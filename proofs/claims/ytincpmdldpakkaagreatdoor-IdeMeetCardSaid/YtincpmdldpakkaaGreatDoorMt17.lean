/- Texts: Yh. -/
import Derived.Test.YtincpmdldpakkaaGreatDoorMt16
import Derived.Test.YtincpmdldpakkaaGreatDoorMt12
import Derived.Test.YtincpmdldpakkaaGreatDoorMt15
import Derived.Test.YtincpmdldpakkaaGreatDoorMt07
namespace Go.Df
open Go.RowKit
theorem Rd.new2y (w : World) (b : Nat) (u v : Value) (t : TypeId) (hb : b = w.heap.size) : Rd (w.alloc (.cells #[u,v] t)) 2 (some ⟨b,0,none⟩) 1 [u,v]:=by
 subst hb
 refine ⟨rfl,fun _ => ⟨_,_,rfl,by simp,fun j _ => ?_⟩⟩
 rw [World.cell?_alloc_new,Nat.zero_add];simp
end Go.Df
namespace Go.Df.Sp
def oI (s : List (List Int) × List It) (i : Nat) : List (List Int):=s.1 ++ (s.2.take i).map It.pa
def fI (es : List Ed) (s : List (List Int) × List It) (i : Nat) : List It:=(s.2.take i).flatMap (sucI es)
theorem oI_len (s : List (List Int) × List It) {i : Nat} (h : i ≤ s.2.length) : (oI s i).length = s.1.length + i:=by
 unfold oI;simp;omega
theorem take_snoc {α : Type} {l : List α} {i : Nat} {x : α} (h : l[i]? = some x) : l.take (i + 1) = l.take i ++ [x]:=by
 rw [List.take_add_one,h];rfl
theorem oI_succ {s : List (List Int) × List It} {i : Nat} {x : It} (h : s.2[i]? = some x) : oI s (i + 1) = oI s i ++ [x.pa]:=by
 unfold oI
 rw [take_snoc h,List.map_append,List.append_assoc]
 rfl
theorem fI_succ {es : List Ed} {s : List (List Int) × List It} {i : Nat} {x : It} (h : s.2[i]? = some x) : fI es s (i + 1) = fI es s i ++ sucI es x:=by
 unfold fI
 rw [take_snoc h,List.flatMap_append]
 simp
theorem rnd_done {es : List Ed} {count i : Nat} {s : List (List Int) × List It} (h2 : i ≤ count - s.1.length) (h3 : i = s.2.length ∨ count ≤ s.1.length + i) : rndI es count s = (oI s i,(fI es s i).take count):=by
 have e : s.2.take (count - s.1.length) = s.2.take i:=by
   rcases h3 with h3 | h3
   · rw [List.take_of_length_le (by omega),List.take_of_length_le (by omega)]
   · rw [show count - s.1.length = i by omega]
 unfold rndI oI fI
 rw [e]
def gI (es : List Ed) (F : List It) (x : It) (l : List Int) (count k : Nat) : List It:=(F ++ (l.take k).map (nextI es x)).take count
theorem gI_zero (es : List Ed) (F : List It) (x : It) (l : List Int) (count : Nat) : gI es F x l count 0 = F.take count:=by unfold gI;simp
theorem gI_succ {es : List Ed} {F : List It} {x : It} {l : List Int} {count k : Nat} {e : Int} (h : l[k]? = some e) (hl : (gI es F x l count k).length < count) : gI es F x l count (k + 1) = gI es F x l count k ++ [nextI es x e]:=by
 unfold gI at hl ⊢
 rw [List.length_take] at hl
 rw [take_snoc h,List.map_append,← List.append_assoc,List.take_of_length_le (l:=F ++ List.map (nextI es x) (List.take k l)) (by omega),List.take_of_length_le (by simp at hl ⊢;omega)]
 rfl
theorem gI_done {es : List Ed} {F : List It} {x : It} {l : List Int} {count k : Nat} (h : k = l.length ∨ count ≤ (gI es F x l count k).length) : gI es F x l count k = (F ++ l.map (nextI es x)).take count:=by
 rcases h with h | h
 · unfold gI;rw [List.take_of_length_le (l:=l) (by omega)]
 · unfold gI at h ⊢
   rw [List.length_take] at h
   have e : F ++ l.map (nextI es x) = (F ++ (l.take k).map (nextI es x)) ++ (l.drop k).map (nextI es x):=by
     rw [List.append_assoc,← List.map_append,List.take_append_drop]
   rw [e]
   exact (List.take_append_of_le_length (by omega)).symm
def sts (l : List It) : List (Int × List Int):=l.map fun x => (x.at_,x.cs)
end Go.Df.Sp
namespace Go.Proofs.YtincpmdldpakkaaGreatDoor
open Go.RowKit Go.Df
attribute [local go_sem ↓] Go.wp_at_zero Go.wp_at_succ
theorem state_info : (Tryz.prog.info? 109).map (fun i => (i.zero,i.size,i.bytes)) = some (some (.agg #[.int .i64 0,.slice none 0 0]),2,32):=by kernel_rfl
set_option maxRecDepth 100000 in
set_option maxHeartbeats 8000000 in
theorem rall_any (A1 A2 : Option Addr) (n1 c1 n2 c2 : Nat) (mn fr : Int) (most count : Nat) (ns : List Sp.Nd) (es : List Sp.Ed) (w : World) (hg : Gr w A1 n1 A2 n2 ns es) (hc : Sp.chkErr ns es mn fr = 0) (hm : most ≤ 4096) (hcn : count ≤ 5000) :
   Calls Tryz.prog 15 #[.agg #[.slice A1 n1 c1,.slice A2 n2 c2,.int .i64 mn],.int .i64 fr,.int .i64 (most : Nat),.int .i64 (count : Nat)] w fun e w' => ∃ A c n,n = (Sp.itI es count fr (most + 1)).1.length ∧ e = .returned (.tuple #[.slice A n c,.int .i64 0]) ∧
     (0 < n → ∃ b o,A = some ⟨b,o,none⟩ ∧ w.heap.size ≤ b ∧ b < w'.heap.size ∧ ∀ (i : Nat) (l : List Int),(Sp.itI es count fr (most + 1)).1[i]? = some l → ∃ Ai ni ci,w'.cell? ⟨b,o + i,none⟩ = some (.slice Ai ni ci) ∧ SIn w' Ai ni ci l) ∧ Below w.heap.size w w':=by
 obtain ⟨i0,hinf0,hz0,hz1,hz2⟩:=info_parts int_info
 obtain ⟨i1,hinf1,hy0,hy1,hy2⟩:=info_parts row_info
 obtain ⟨i2,hinf2,hx0,hx1,hx2⟩:=info_parts state_info
 have HG:=Lib.hid hg
 have HC:=Lib.hid hc
 have hs2 : Hid (n2 ≤ 1000000):=by
   show n2 ≤ 1000000
   have h2:=hg.ed.1
   have h3:=(Sp.super_len (Sp.chk_ok hc).1).2
   omega
 clear hg hc
 go_enter Tryz.func15,Tryz.ntmps15
 go_upto_region 1 with fail
 refine wp_named (fun W => ∃ b0,w.heap.size = b0 ∧ Blk W b0 [.slice A1 n1 c1,.slice A2 n2 c2,.int .i64 mn] ∧ Below w.heap.size w W) ⟨_,rfl,?_,?_⟩ ?_
 · exact kbn
 · go_grown
 rintro W ⟨b0,e0,B0,hB⟩
 rw [e0]
 have G0 : w.heap.size ≤ b0:=by omega
 clear e0
 have ⟨L0,C0,F0⟩:=B0
 have hkW : Kept [] w W:=(Kept.refl _ _).call hB
 go_upto_region 1 with fail
 go_wp2_with fail
 refine (rstart_any _ _ _ _ _ _ _ _ ns es 0 HC.out _ (HG.out.later hB)).mono ?_
 rintro e w1 ⟨rfl,hb1⟩
 rw [show Sp.atS 0 fr = fr from rfl]
 have hk1 : Kept [] W w1:=(Kept.refl _ _).call hb1
 go_upto_region 2 with fail
 refine wp_named (fun V => ∃ g,w1.heap.size = g ∧ Blk V g [.int .i64 fr,.slice none 0 0] ∧ Kept [] w1 V) ⟨_,rfl,Blk.new _ _ _ _ rfl,(Kept.refl _ _).alloc _⟩ ?_
 rintro V1 ⟨g,eg,Bg,hkV⟩
 rw [eg]
 have hkWV : Kept [] W V1:=keptTrans hk1 hkV
 have BB:=hkWV.blk (by simp) B0
 have ⟨LB,CB,FB⟩:=BB
 have ⟨LG,CG,FG⟩:=Bg
 have gb0 : b0 ≠ g:=by have:=hk1.size;omega
 clear C0 F0 eg
 have hm1 : ((most : Int) < 0) = False:=by simp
 have hm2 : decide ((4096 : Int) < (most : Int)) = false:=by simp;omega
 have hm3 : decide ((most : Int) < 0) = false:=by simp
 have hm4 : decide ((count : Int) < 0) = false:=by simp
 have hm5 : decide ((5000 : Int) < (count : Int)) = false:=by simp;omega
 go_upto_region 9 with fail
 refine wp_named (fun X => ∃ b1 b2,V1.heap.size + 1 = b2 ∧ V1.heap.size = b1 ∧ Blk X b1 [.slice none 0 0] ∧ Blk X b2 [.int .i64 fr,.slice none 0 0] ∧ Kept [] V1 X) ⟨_,_,rfl,rfl,(Blk.new _ _ _ _ rfl).alloc _,Blk.new _ _ _ _ (by simp),((Kept.refl _ _).alloc _).alloc _⟩ ?_
 rintro V ⟨b1,b2,e2,e1,BN,BS,hkV2⟩
 rw [e2,e1]
 have hkwV : Kept [] w V:=keptTrans hkW (keptTrans hk1 (keptTrans hkV hkV2))
 have BV:=hkV2.blk (by simp) BB
 have ⟨LV,CV,FV⟩:=BV
 have A0:=Lib.hid (AM.start (te:=30) (ts:=109) (lim:=V.heap.size) BN BS)
 clear LB CB FB LG CG FG Bg BB hm1 hm2 hm3 hm4 hm5 BN BS e1 e2
 go_wp2_with fail
 go_loopw [12,13,14,15] (fun s12 s13 s14 s15 wr => ∃ (n : Nat) (Ao : Option Addr) (ko co : Nat) (An : Option Addr) (m cn : Nat) (As : Option Addr) (cs : Nat),n ≤ most + 1 ∧ s12 = .slice Ao ko co ∧ s13 = .slice An m cn ∧ s14 = .slice As m cs ∧ s15 = .int .i64 n ∧ Kept [] V wr ∧
   Hid ((Sp.itI es count fr n).1.length = ko) ∧ Hid ((Sp.itI es count fr n).2.length = m) ∧ Hid (AM 30 109 V.heap.size wr (.slice Ao ko co) (.slice none 0 0) (.slice none 0 0) An As (Sp.itI es count fr n).1 [] [] ((Sp.itI es count fr n).2.map Sp.It.pa) (Sp.sts (Sp.itI es count fr n).2))) (fun _ _ _ s15 _ => most + 1 - (intOf s15).toNat)
 case atStart => exact ⟨0,none,0,0,some ⟨b1,0,none⟩,1,1,some ⟨b2,0,none⟩,1,by omega,rfl,rfl,rfl,rfl,Kept.refl _ _,Lib.hid rfl,Lib.hid rfl,A0⟩
 case round =>
 clear CV FV A0
 obtain ⟨n,Ao,ko,co,An,m,cn,As,cs,hn,rfl,rfl,rfl,rfl,hkr,HKO,HM,AMr⟩:=hrel
 have ⟨LR,CR,FR⟩:=hkr.blk (by simp) BV
 have hkwr : Kept [] w wr:=keptTrans hkwV hkr
 have hko : ko ≤ count:=by rw [← HKO.out];exact Sp.itI_out_len n
 by_cases hgo : n ≤ most ∧ 0 < m ∧ ko < count
 case neg =>
   have HE : Hid ((Sp.itI es count fr (most + 1)).1 = (Sp.itI es count fr n).1):=by
     show _ = _
     by_cases h9 : n = most + 1
     · rw [h9]
     · have h8 := (Sp.itI_stop (es := es) (count := count) (a := fr) (n := n) (by
         rcases Nat.eq_zero_or_pos m with h7 | h7
         · left;exact List.length_eq_zero_iff.1 (by rw [HM.out];exact h7)
         · right;rw [HKO.out];omega) (most + 1 - n)).1
       rw [show n + (most + 1 - n) = most + 1 by omega] at h8
       exact h8
   have hfin : ∀ w',Kept [] wr w' → ∃ A c n',n' = (Sp.itI es count fr (most + 1)).1.length ∧ (.returned (.tuple #[.slice Ao ko co,.int .i64 0]) : Ending) = .returned (.tuple #[.slice A n' c,.int .i64 0]) ∧
     (0 < n' → ∃ b o,A = some ⟨b,o,none⟩ ∧ w.heap.size ≤ b ∧ b < w'.heap.size ∧ ∀ (i : Nat) (l : List Int),(Sp.itI es count fr (most + 1)).1[i]? = some l → ∃ Ai ni ci,w'.cell? ⟨b,o + i,none⟩ = some (.slice Ai ni ci) ∧ SIn w' Ai ni ci l) ∧ Below w.heap.size w w':=fun w' hk' => by
     obtain ⟨A,c,hv,-,ht⟩:=(AMr.out.kept hk').told
     rw [HKO.out] at hv ht
     injection hv with e1 e2 e3
     subst e1 e3
     exact ⟨Ao,co,ko,by rw [HE.out,HKO.out],rfl,by rw [HE.out];exact fun h0 => by (obtain ⟨b,o,e,hge,hl,hc⟩:=ht h0;exact ⟨b,o,e,Nat.le_trans hkwV.size hge,hl,hc⟩),(keptTrans hkwr hk').toBelow⟩
   have HF:=Lib.hid hfin
   clear hfin
   by_cases q1 : n ≤ most
   case neg =>
     have z1 : decide ((n : Int) ≤ (most : Int)) = false:=by simp;omega
     have z1' : decide (n ≤ most) = false:=by simp;omega
     clear hgo q1
     go_wp2_with fail
     go_ret2
     exact HF.out _ (Kept.refl _ _)
   have z1 : decide ((n : Int) ≤ (most : Int)) = true:=by simp;omega
   have z1' : decide (n ≤ most) = true:=by simp;omega
   by_cases q2 : 0 < m
   case neg =>
     have z2 : decide ((0 : Int) < (m : Int)) = false:=by simp;omega
     have z3 : decide (0 < m) = false:=by simp;omega
     clear hgo q1 q2
     go_wp2_with fail
     go_ret2
     exact HF.out _ (Kept.refl _ _)
   have z2 : decide ((0 : Int) < (m : Int)) = true:=by simp;omega
   have z3 : decide (0 < m) = true:=by simp;omega
   have z4 : decide ((ko : Int) < (count : Int)) = false:=by simp;omega
   have z5 : decide (ko < count) = false:=by simp;omega
   clear hgo q1
   go_wp2_with fail
   go_ret2
   exact HF.out _ (Kept.refl _ _)
 obtain ⟨q1,q2,q3⟩:=hgo
 have z1 : decide ((n : Int) ≤ (most : Int)) = true:=by simp;omega
 have z1' : decide (n ≤ most) = true:=by simp;omega
 have z2 : decide ((0 : Int) < (m : Int)) = true:=by simp;omega
 have z3 : decide (0 < m) = true:=by simp;omega
 have z4 : decide ((ko : Int) < (count : Int)) = true:=by simp;omega
 have z5 : decide (ko < count) = true:=by simp;omega
 go_wp2_with fail
 obtain ⟨s,hs⟩ : ∃ s,Sp.itI es count fr n = s:=⟨_,rfl⟩
 have HS:=Lib.hid hs
 have HPT : Hid (∀ x ∈ s.2,x.pa.length = n ∧ x.cs.length ≤ n):=by rw [← hs];exact Lib.hid (Sp.itI_path n)
 rw [hs] at HKO HM AMr
 have hm6 : m ≤ count + 1:=by rw [← HM.out,← hs];exact Sp.itI_now_len n
 clear hs z1 z1' z2 z3 z4 z5
 go_loopw [12,16,17,18] (fun s12 s16 s17 s18 wi => ∃ (i : Nat) (Bo : Option Addr) (k1 co1 : Nat) (Bn : Option Addr) (kn cn1 : Nat) (Bs : Option Addr) (cs1 : Nat),i ≤ m ∧ i ≤ count - ko ∧ s12 = .slice Bo k1 co1 ∧ s16 = .slice Bn kn cn1 ∧ s17 = .slice Bs kn cs1 ∧ s18 = .int .i64 i ∧ Kept [] V wi ∧ Hid (k1 = ko + i) ∧ kn ≤ count ∧ Hid (((Sp.fI es s i).take count).length = kn) ∧
   Hid (AM 30 109 V.heap.size wi (.slice Bo k1 co1) (.slice Bn kn cn1) (.slice Bs kn cs1) An As (Sp.oI s i) (((Sp.fI es s i).take count).map Sp.It.pa) (Sp.sts ((Sp.fI es s i).take count)) (s.2.map Sp.It.pa) (Sp.sts s.2))) (fun _ _ _ s18 _ => m - (intOf s18).toNat)
 case atStart =>
   refine ⟨0,Ao,ko,co,none,0,0,none,0,by omega,by omega,rfl,rfl,rfl,rfl,hkr,Lib.hid rfl,by omega,Lib.hid (by simp [Sp.fI]),Lib.hid ?_⟩
   rw [show Sp.oI s 0 = s.1 by simp [Sp.oI],show (Sp.fI es s 0).take count = [] by simp [Sp.fI]]
   exact AMr.out
 case round =>
 clear CR FR
 rename World => wi
 obtain ⟨i,Bo,k1,co1,Bn,kn,cn1,Bs,cs1,hi,hic,rfl,rfl,rfl,rfl,hki,hk1e,hkn,HKN,AMi⟩:=hrel
 have ⟨LI,CI,FI⟩:=hki.blk (by simp) BV
 have hkwi : Kept [] w wi:=keptTrans hkwV hki
 by_cases hlt : i < m ∧ k1 < count
 case neg =>
   have HD : Hid (Sp.itI es count fr (n + 1) = (Sp.oI s i,(Sp.fI es s i).take count)):=by
     show Sp.rndI es count (Sp.itI es count fr n) = _
     rw [HS.out]
     exact Sp.rnd_done (by rw [HKO.out];exact hic) (by rw [HM.out,HKO.out];have:=hk1e.out;omega)
   obtain ⟨Cn,d1,Cs,d2,e1,e2,AT⟩:=AMi.out.turn
   have hl1 : (((Sp.fI es s i).take count).map Sp.It.pa).length = kn:=by rw [List.length_map];exact HKN.out
   have hl2 : (Sp.sts ((Sp.fI es s i).take count)).length = kn:=by unfold Sp.sts;rw [List.length_map];exact HKN.out
   rw [hl1] at e1
   rw [hl2] at e2
   injection e1 with e1 _ e3
   injection e2 with e2 _ e4
   subst e1 e2 e3 e4
   have HAT:=Lib.hid AT
   have HO1 : Hid ((Sp.oI s i).length = k1):=Lib.hid (by rw [Sp.oI_len _ (by rw [HM.out];exact hi),HKO.out,hk1e.out])
   have hfin : (∃ (n' : Nat) (Ao : Option Addr) (ko co : Nat) (An : Option Addr) (m cn : Nat) (As : Option Addr) (cs : Nat),n' ≤ most + 1 ∧ (.slice Bo k1 co1 : Value) = .slice Ao ko co ∧ (.slice Bn kn cn1 : Value) = .slice An m cn ∧ (.slice Bs kn cs1 : Value) = .slice As m cs ∧ (.int .i64 (n + 1 : Nat) : Value) = .int .i64 n' ∧ Kept [] V wi ∧
     Hid ((Sp.itI es count fr n').1.length = ko) ∧ Hid ((Sp.itI es count fr n').2.length = m) ∧ Hid (AM 30 109 V.heap.size wi (.slice Ao ko co) (.slice none 0 0) (.slice none 0 0) An As (Sp.itI es count fr n').1 [] [] ((Sp.itI es count fr n').2.map Sp.It.pa) (Sp.sts (Sp.itI es count fr n').2))):=by
     refine ⟨n + 1,Bo,k1,co1,Bn,kn,cn1,Bs,cs1,by omega,rfl,rfl,rfl,rfl,hki,?_,?_,?_⟩
     · rw [HD.out];exact HO1
     · rw [HD.out];exact HKN
     · rw [HD.out];exact HAT
   have HFIN:=Lib.hid hfin
   clear hfin AT
   by_cases q4 : i < m
   case neg =>
     have z1 : decide ((i : Int) < (m : Int)) = false:=by simp;omega
     have z2 : decide (i < m) = false:=by simp;omega
     clear hlt q4
     go_wp2_with fail
     refine ⟨?_,by simp [intOf];omega⟩
     have h9:=HFIN.out
     simpa using h9
   have z1 : decide ((i : Int) < (m : Int)) = true:=by simp;omega
   have z2 : decide (i < m) = true:=by simp;omega
   have z3 : decide ((k1 : Int) < (count : Int)) = false:=by simp;omega
   have z4 : decide (k1 < count) = false:=by simp;omega
   clear hlt q4
   go_wp2_with fail
   refine ⟨?_,by simp [intOf];omega⟩
   have h9:=HFIN.out
   simpa using h9
 obtain ⟨q4,q5⟩:=hlt
 have z1 : decide ((i : Int) < (m : Int)) = true:=by simp;omega
 have z2 : decide (i < m) = true:=by simp;omega
 have z3 : decide ((k1 : Int) < (count : Int)) = true:=by simp;omega
 have z4 : decide (k1 < count) = true:=by simp;omega
 have z5 : (i : Int) < (m : Int):=by omega
 obtain ⟨x,hx⟩ : ∃ x,s.2[i]? = some x:=⟨_,List.getElem?_eq_getElem (by rw [HM.out];exact q4)⟩
 obtain ⟨hpn,hpc⟩:=HPT.out x (List.mem_of_getElem? hx)
 have HX:=Lib.hid hx
 obtain ⟨pa,xa,xc⟩:=x
 obtain ⟨bN,oN,Ai,ni,ci,rfl,hsN,hcN,hpN⟩:=AMi.out.row (i:=i) (l:=pa) (by rw [List.getElem?_map,hx];rfl)
 have hlN:=hsN.1
 have AMa:=AMi.out.kept ((Kept.refl [] wi).alloc (.cells #[.slice Ai ni ci] 30))
 obtain ⟨vs1,ho1,htell⟩:=AMa.tell
 have hlo : (Sp.oI s i).length = k1:=by rw [Sp.oI_len _ (by rw [HM.out];exact hi),HKO.out,hk1e.out]
 rw [hlo] at ho1 htell
 have HO1:=Lib.hid ho1
 have HTELL:=Lib.hid htell
 have HPN:=Lib.hid hpN
 have HRNG:=Lib.hid (fun y (hy : y ∈ (Value.slice Bo k1 co1).ownBlock.toList) => (AMi.out.rng (.inl (by simpa using hy))).1)
 have hszi:=hki.size
 clear ho1 htell hx hpN hlo AMa hsN
 go_upto_region 18 with (at_builtin;refine wpList_append_rd _ rfl _ _ 49 rfl V.heap.size 30 i1 (.slice none 0 0) 1 24 Tryz.underlying49 hinf1 hy0 hy1 hy2 rfl (by decide) (.slice Bo k1 co1) k1 vs1 rfl HO1.out (some ⟨wi.heap.size,0,none⟩) 1 1 [.slice Ai ni ci] rfl (Rd.new1 _ _ _ _ rfl) (fun h => by cases h) (by intro u hu;simp at hu;subst hu;rfl) (k1 + 1) rfl _ rfl (by unfold maxLen;omega) (by omega) (by simp;omega) ?_;intro A9 c9 w9 hown9 hk9 hat9;have HOWN9:=Lib.hid hown9;have HK9:=Lib.hid hk9;have HAT9:=Lib.hid hat9;clear hown9 hk9 hat9)
 have AM9:=HTELL.out w9 _ _ pa HK9.out HOWN9.out HAT9.out ⟨Ai,ni,ci,rfl,HPN.out.fx (.same ((Kept.refl [] wi).alloc _))⟩
 have hk9V : Kept [] V w9:=(hki.alloc (.cells #[.slice Ai ni ci] 30)).next HK9.out (fun y hy => .inr (HRNG.out y hy))
 have ⟨L9,C9,F9⟩:=hk9V.blk (by simp) BV
 have hkw9 : Kept [] w w9:=keptTrans hkwV hk9V
 have hx:=HX.out
 obtain ⟨bS,oS,Ac,nc,cc,rfl,hsS,hcS0,hcS1,hpS⟩:=AM9.st (i:=i) (x:=(xa,xc)) (by unfold Sp.sts;rw [List.getElem?_map,hx];rfl)
 have hlS:=hsS.1
 have HPS:=Lib.hid hpS
 dsimp only at hcS0 hcS1 hpn hpc
 have hnc : nc ≤ 1000000:=by have h1:=hpS.sin.1.1;simp at h1;omega
 have HAM9:=Lib.hid AM9
 obtain ⟨l,hl⟩ : ∃ l,Sp.nextS es xa xc = l:=⟨_,rfl⟩
 have HL:=Lib.hid hl
 clear CI FI hcN hx hsS hpS AM9 hl hlN
 refine wp_region_E 6 (fun w' => SX0 w9 w') (by kernel_rfl) (by (exact kp0)) (fun hHeld => ?_)
 refine WE_tk 0 ?_
 refine WE_tk 1 ?_
 refine WE_tk 2 ?_
 refine WE_tk 3 ?_
 refine WE_tk 4 ?_
 refine WE_step 5 rfl (by kernel_rfl) (fun K hK => ?_)
 go_simp
 (go_at_call 41;refine (rfollow_any A1 A2 Ac n1 c1 n2 c2 nc cc mn xa es xc _ (HG.out.ed.later (hkw9.drew).toBelow) hs2.out (HPS.out.sin.kept ((Kept.refl [] _).drew)) hnc).mono ?_;rw [HL.out];rintro e wf ⟨Al,q,cl,rfl,hsl,hq,hfr,hbf⟩;have HSL:=Lib.hid hsl;have HFR:=Lib.hid hfr;clear hsl hfr)
 (try go_wp2_with fail)
 refine hK.out _ _ ?_ (fun hHeld => ?_)
 · (exact kp0)
 clear hK K
 refine WE_put ?_
 refine WE_last rfl (by kernel_rfl) (fun K hK => ?_)
 go_simp
 refine hK.out _ _ ?_
 clear hK K
 have hkf : Kept [] w9 wf:=hHeld.1
 have hkfV : Kept [] V wf:=keptTrans hk9V hkf
 have ⟨LF,CF,FF⟩:=hkfV.blk (by simp) BV
 have AMf:=Lib.hid (HAM9.out.kept hkf)
 have HLQ : Hid (l.length = q):=HSL.out.1.1
 have HPLf:=Lib.hid (SInP.new (O:=ow3 (.slice A9 (k1 + 1) c9) (.slice Bn kn cn1) (.slice Bs kn cs1)) (w:=w9) HSL.out (fun y hy => HFR.out y hy) (fun y hy => (HAM9.out.rng hy).2))
 clear C9 F9 hcS0 hcS1 hHeld hlS
 go_wp2_with fail
 go_loopw [16,17,20] (fun s16 s17 s20 wk => ∃ (k : Nat) (Dn : Option Addr) (kd cn2 : Nat) (Ds : Option Addr) (cs2 : Nat),k ≤ q ∧ s16 = .slice Dn kd cn2 ∧ s17 = .slice Ds kd cs2 ∧ s20 = .int .i64 k ∧ Kept [] V wk ∧ kd ≤ count ∧ Hid ((Sp.gI es (Sp.fI es s i) ⟨pa,xa,xc⟩ l count k).length = kd) ∧
   Hid (AM 30 109 V.heap.size wk (.slice A9 (k1 + 1) c9) (.slice Dn kd cn2) (.slice Ds kd cs2) (some ⟨bN,oN,none⟩) (some ⟨bS,oS,none⟩) (Sp.oI s i ++ [pa]) ((Sp.gI es (Sp.fI es s i) ⟨pa,xa,xc⟩ l count k).map Sp.It.pa) (Sp.sts (Sp.gI es (Sp.fI es s i) ⟨pa,xa,xc⟩ l count k)) (s.2.map Sp.It.pa) (Sp.sts s.2)) ∧
   Hid (SInP (ow3 (.slice A9 (k1 + 1) c9) (.slice Dn kd cn2) (.slice Ds kd cs2)) wk Al q cl l)) (fun _ _ s20 _ => q - (intOf s20).toNat)
 case atStart =>
   refine ⟨0,Bn,kn,cn1,Bs,cs1,by omega,rfl,rfl,rfl,hkfV,hkn,Lib.hid (by rw [Sp.gI_zero];exact HKN.out),Lib.hid ?_,HPLf⟩
   rw [Sp.gI_zero]
   exact AMf.out
 case round =>
 clear CF FF AMf HPLf
 rename World => wk
 obtain ⟨k,Dn,kd,cn2,Ds,cs2,hkq,rfl,rfl,rfl,hkk,hkdc,HKD,AMk,HPL⟩:=hrel
 have ⟨LK,CK,FK⟩:=hkk.blk (by simp) BV
 have hkwk : Kept [] w wk:=keptTrans hkwV hkk
 by_cases hlt2 : k < q ∧ kd < count
 case neg =>
   have HDN : Hid ((Sp.fI es s (i + 1)).take count = Sp.gI es (Sp.fI es s i) ⟨pa,xa,xc⟩ l count k):=by
     show _ = _
     rw [Sp.fI_succ HX.out,Sp.gI_done (by rw [HLQ.out,HKD.out];omega)]
     unfold Sp.sucI
     rw [HL.out]
   have hfin : (∃ (i' : Nat) (Bo : Option Addr) (k1' co1 : Nat) (Bn : Option Addr) (kn cn1 : Nat) (Bs : Option Addr) (cs1 : Nat),i' ≤ m ∧ i' ≤ count - ko ∧ (.slice A9 (k1 + 1) c9 : Value) = .slice Bo k1' co1 ∧ (.slice Dn kd cn2 : Value) = .slice Bn kn cn1 ∧ (.slice Ds kd cs2 : Value) = .slice Bs kn cs1 ∧ (.int .i64 (i + 1 : Nat) : Value) = .int .i64 i' ∧ Kept [] V wk ∧ Hid (k1' = ko + i') ∧ kn ≤ count ∧ Hid (((Sp.fI es s i').take count).length = kn) ∧
     Hid (AM 30 109 V.heap.size wk (.slice Bo k1' co1) (.slice Bn kn cn1) (.slice Bs kn cs1) (some ⟨bN,oN,none⟩) (some ⟨bS,oS,none⟩) (Sp.oI s i') (((Sp.fI es s i').take count).map Sp.It.pa) (Sp.sts ((Sp.fI es s i').take count)) (s.2.map Sp.It.pa) (Sp.sts s.2))):=by
     refine ⟨i + 1,A9,k1 + 1,c9,Dn,kd,cn2,Ds,cs2,by omega,by have:=hk1e.out;omega,rfl,rfl,rfl,rfl,hkk,Lib.hid (by have:=hk1e.out;omega),hkdc,?_,?_⟩
     · rw [HDN.out];exact HKD
     · rw [HDN.out,Sp.oI_succ HX.out];exact AMk
   have HFIN:=Lib.hid hfin
   clear hfin
   by_cases q6 : k < q
   case neg =>
     have y1 : decide ((k : Int) < (q : Int)) = false:=by simp;omega
     have y2 : decide (k < q) = false:=by simp;omega
     clear hlt2 q6
     go_wp2_with fail
     refine ⟨?_,by simp [intOf];omega⟩
     have h9:=HFIN.out
     simpa using h9
   have y1 : decide ((k : Int) < (q : Int)) = true:=by simp;omega
   have y2 : decide (k < q) = true:=by simp;omega
   have y3 : decide ((kd : Int) < (count : Int)) = false:=by simp;omega
   have y4 : decide (kd < count) = false:=by simp;omega
   clear hlt2 q6
   go_wp2_with fail
   refine ⟨?_,by simp [intOf];omega⟩
   have h9:=HFIN.out
   simpa using h9
 obtain ⟨q6,q7⟩:=hlt2
 have y1 : decide ((k : Int) < (q : Int)) = true:=by simp;omega
 have y2 : decide (k < q) = true:=by simp;omega
 have y3 : decide ((kd : Int) < (count : Int)) = true:=by simp;omega
 have y4 : decide (kd < count) = true:=by simp;omega
 have y5 : (k : Int) < (q : Int):=by omega
 obtain ⟨bL,oL,rfl,hlL,hcL⟩:=HPL.out.sin.1.2 (by omega)
 have hsL:=HPL.out.safe _ rfl
 have rL:=hcL k q6
 obtain ⟨ed,hed⟩ : ∃ ed,gi l k = ed:=⟨_,rfl⟩
 rw [hed] at rL
 have HED : Hid (l[k]? = some ed):=Lib.hid (by rw [List.getElem?_eq_getElem (by rw [HLQ.out];exact q6),← hed,gi_lt (by rw [HLQ.out];exact q6)])
 obtain ⟨bS',oS',Ac',nc',cc',hS',hsS,hcS0,hcS1,hpS⟩:=AMk.out.st (i:=i) (x:=(xa,xc)) (by unfold Sp.sts;rw [List.getElem?_map,HX.out];rfl)
 injection hS' with hS'
 injection hS' with hS1 hS2 _
 subst hS1 hS2
 dsimp only at hcS0 hcS1
 have hlS:=hsS.1
 have HPS2:=Lib.hid hpS
 have hnc2 : nc' ≤ 1000000:=by have h1:=hpS.sin.1.1;simp at h1;omega
 obtain ⟨st,hst⟩ : ∃ st,Sp.stepS es xa xc ed = st:=⟨_,rfl⟩
 have HST:=Lib.hid hst
 obtain ⟨ser,sa,sc⟩:=st
 clear hcL hed hpS hst
 go_upto_region 22 with fail
 go_cut [21] (fun v wx => ∃ (g2 : Nat) (A' : Option Addr) (n' c' : Nat),v = .pointer (some ⟨g2,0,none⟩) ∧ Blk wx g2 [.int .i64 sa,.slice A' n' c'] ∧ SInP (ow3 (.slice A9 (k1 + 1) c9) (.slice Dn kd cn2) (.slice Ds kd cs2)) wx A' n' c' sc.reverse ∧ wk.heap.size ≤ g2 ∧ Kept [] wk wx)
 case first =>
   have HEk:=Lib.hid ((HG.out.later hkwk.toBelow).ed)
   go_region_held3 (fun w' => SX0 wk w') (exact kp0)
     (first | (go_at_call 42;((with_reducible refine (rstep2_any _ _ Ac' _ _ _ _ nc' cc' _ xa ed es xc _ (HEk.out.kept (by (exact kpt0))) hs2.out (HPS2.out.sin.kept (by (exact kpt0))) hnc2).mono ?_));rw [HST.out];rintro e w3 ⟨A3,n3,c3,rfl,hi3,hfr3,hb3⟩;have HI3:=Lib.hid hi3;have HF3:=Lib.hid hfr3;clear hi3 hfr3;obtain ⟨hc3,hf3,hg3⟩:=bcell hb3;have hz3:=hb3.size;try simp at hz3))
   · have hk3 : Kept [] wk w3:=((Kept.refl [] wk).drew).call hb3
     go_wp2_with fail
     go_meet
     refine ⟨w3.heap.size,A3,n3,c3,rfl,Blk.new _ _ _ _ rfl,?_,hk3.size,hk3.alloc _⟩
     exact (HPS2.out.step hk3 HI3.out (fun a ha => HF3.out a ha) (fun x hx => (AMk.out.rng hx).2)).fx (.same ((Kept.refl [] _).alloc _))
   · have hk3 : Kept [] wk w3:=(((Kept.refl [] wk).alloc _).drew).call hb3
     have BG3 : Blk w3 wk.heap.size [.int .i64 0,.slice none 0 0]:=((Blk.new _ _ _ _ rfl : Blk (wk.alloc (.cells #[.int .i64 0,.slice none 0 0] 109)) wk.heap.size [.int .i64 0,.slice none 0 0]).drew).later hb3
     have hkX : Kept [wk.heap.size] w3 ((w3.setCell ⟨wk.heap.size,0,none⟩ (.int .i64 sa)).setCell ⟨wk.heap.size,1,none⟩ (.slice A3 n3 c3)):=((Kept.refl _ _).set _ _ _ (.inl (by simp))).set _ _ _ (.inl (by simp))
     go_wp2_with fail
     go_meet
     refine ⟨wk.heap.size,A3,n3,c3,rfl,(BG3.set 0 _).set 1 _,?_,Nat.le_refl _,(hk3.set _ _ _ (.inr (Nat.le_refl _))).set _ _ _ (.inr (Nat.le_refl _))⟩
     have hs3 : wk.heap.size + 1 ≤ (wk.alloc (.cells #[.int .i64 0,.slice none 0 0] 109)).drew.heap.size:=by simp [World.drew]
     refine SInP.keptX (HPS2.out.step hk3 HI3.out (fun a ha => ?_) (fun x hx => (AMk.out.rng hx).2)) hkX (fun a ha => ?_)
     · rcases HF3.out a ha with h9 | h9
       · exact .inl h9
       · exact .inr ⟨by omega,h9.2⟩
     · rcases HF3.out a ha with ⟨a0,h9,h8⟩ | h9
       · have:=(HPS2.out.safe a0 h9).1
         simp;omega
       · simp;omega
 case rest =>
 obtain ⟨g2,A3,n3,c3,rfl,BT,hpT,hg2,hkc⟩:=hcut
 have ⟨LT,CT,FT⟩:=BT
 have hkcV : Kept [] V wc:=keptTrans hkk hkc
 have ⟨LC,CC,FC⟩:=hkcV.blk (by simp) BV
 have AMc:=AMk.out.kept hkc
 have hPLc : SInP (ow3 (.slice A9 (k1 + 1) c9) (.slice Dn kd cn2) (.slice Ds kd cs2)) wc (some ⟨bL,oL,none⟩) q cl l:=HPL.out.fx (.same hkc)
 clear CK FK rL hcS0 hcS1
 go_wp2_with fail
 obtain ⟨bN',oN',Aj,nj,cj,hN',hsN,hcN,hpN⟩:=AMc.row (i:=i) (l:=pa) (by rw [List.getElem?_map,HX.out];rfl)
 injection hN' with hN'
 injection hN' with hN1 hN2 _
 subst hN1 hN2
 obtain ⟨vs2,ho2,hfind⟩:=AMc.find
 have hnl : ((Sp.gI es (Sp.fI es s i) ⟨pa,xa,xc⟩ l count k).map Sp.It.pa).length = kd:=by rw [List.length_map];exact HKD.out
 rw [hnl] at ho2 hfind
 have HO2:=Lib.hid ho2
 have HFIND:=Lib.hid hfind
 have HPA:=Lib.hid hpN
 have HRC : Hid (∀ x,ow3 (.slice A9 (k1 + 1) c9) (.slice Dn kd cn2) (.slice Ds kd cs2) x → x < wc.heap.size):=fun x hx => (AMc.rng hx).2
 have HRD:=Lib.hid (fun x (hx : ow3 (.slice A9 (k1 + 1) c9) (.slice Dn kd cn2) (.slice Ds kd cs2) x) => (AMc.rng hx).1)
 have hlN : bN < wc.heap.size:=hsN.1
 have hlL2 : bL < wc.heap.size:=(hPLc.safe _ rfl).1
 have xN : bN ∉ (Value.slice Dn kd cn2).ownBlock.toList:=fun hm => hsN.2 (.inr (.inl (by simpa using hm)))
 have xL : bL ∉ (Value.slice Dn kd cn2).ownBlock.toList:=fun hm => (hPLc.safe _ rfl).2 (.inr (.inl (by simpa using hm)))
 have hnj : nj = n:=by have h1:=hpN.sin.1.1;rw [← h1];exact hpn
 have hnj2 : nj ≤ 4096:=by omega
 have rL : wc.cell? ⟨bL,oL + k,none⟩ = some (.int .i64 ed):=by
   have h9:=hPLc.sin.1.2 (by omega)
   obtain ⟨b',o',e',_,hc'⟩:=h9
   injection e' with e'
   injection e' with e1 e2 _
   subst e1 e2
   have h8:=hc' k q6
   have h7:=HED.out
   rw [List.getElem?_eq_getElem (by rw [HLQ.out];exact q6)] at h7
   rw [gi_lt (by rw [HLQ.out];exact q6),Option.some.inj h7] at h8
   exact h8
 have HPLc:=Lib.hid hPLc
 have HAMc:=Lib.hid AMc
 have HNJ:=Lib.hid hnj
 have hk1n : k1 + 1 ≤ 10000:=by omega
 clear ho2 hfind hpN hsN hPLc AMc hnl hnj hlL hsL
 go_cut [16] (fun v wx => ∃ (D2 : Option Addr) (cd2 : Nat),v = .slice D2 (kd + 1) cd2 ∧ AM 30 109 V.heap.size wx (.slice A9 (k1 + 1) c9) (.slice D2 (kd + 1) cd2) (.slice Ds kd cs2) (some ⟨bN,oN,none⟩) (some ⟨bS,oS,none⟩) (Sp.oI s i ++ [pa]) ((Sp.gI es (Sp.fI es s i) ⟨pa,xa,xc⟩ l count k).map Sp.It.pa ++ [pa ++ [ed]]) (Sp.sts (Sp.gI es (Sp.fI es s i) ⟨pa,xa,xc⟩ l count k)) (s.2.map Sp.It.pa) (Sp.sts s.2) ∧ Kept (Value.slice Dn kd cn2).ownBlock.toList wc wx ∧ (∀ g,(Value.slice D2 (kd + 1) cd2).ownBlock = some g → (Value.slice Dn kd cn2).ownBlock = some g ∨ wc.heap.size ≤ g))
 case first =>
   go_region_held3 (fun w' => SXu (Value.slice Dn kd cn2).ownBlock.toList bN bL wc w') (repeat' first | (with_reducible assumption) | (with_reducible refine SXu.of ?_ hlN hlL2 xN xL) | (with_reducible exact Kept.refl _ _) | (with_reducible refine Kept.alloc ?_ _) | (with_reducible refine Kept.drewN ?_ _) | (with_reducible refine Kept.drew ?_))
     (first | (refine step_append_rd _ rfl (.tmp 116) (.tmp 120) 30 rfl wc.heap.size 3 i0 (.int .i64 0) 1 8 Tryz.underlying30 hinf0 hz0 hz1 hz2 rfl (by decide) (.slice (some ⟨_,0,none⟩) 0 0) 0 [] rfl (by first | exact own_new0 _ _ _ _ (by first | rfl | simp) (by first | (simp;done) | (simp;omega)) | exact own_alloc (own_new0 _ _ _ _ (by first | rfl | simp) (by first | (simp;done) | (simp;omega))) _) Aj nj cj (pa.map (Value.int .i64)) rfl ((Rd.ints HPA.out.sin.1).kept (by (repeat' first | (with_reducible assumption) | (with_reducible exact Kept.refl _ _) | (with_reducible refine Kept.alloc ?_ _) | (with_reducible refine Kept.call ?_ (by assumption)) | (with_reducible refine Kept.drewN ?_ _) | (with_reducible refine Kept.drew ?_) | (simp;done) | omega | (simp;omega)))) HPA.out.sin.2.2.2 (ints_one _) nj (by omega) (pa.map (Value.int .i64)) rfl (by unfold maxLen;omega) (by omega) (by first | (simp;done) | (simp;omega) | omega) ?_;intro A5 c5 w5 hown5 hk5 hat5;have hkk5 : Kept [] wc w5:=kept_fresh (by (repeat' first | (with_reducible assumption) | (with_reducible exact Kept.refl _ _) | (with_reducible refine Kept.alloc ?_ _) | (with_reducible refine Kept.call ?_ (by assumption)) | (with_reducible refine Kept.drewN ?_ _) | (with_reducible refine Kept.drew ?_) | (simp;done) | omega | (simp;omega))) hk5 (by simp [Value.ownBlock]);have hkX5 : Kept (Value.slice Dn kd cn2).ownBlock.toList wc w5:=keptWide hkk5 (by simp);have ho5:=own_rng hown5) | (refine step_append_rd _ rfl (.tmp 121) (.tmp 126) 30 rfl wc.heap.size 3 i0 (.int .i64 0) 1 8 Tryz.underlying30 hinf0 hz0 hz1 hz2 rfl (by decide) (.slice A5 nj c5) nj (pa.map (Value.int .i64)) rfl (by first | exact hown5 | exact own_alloc hown5 _) _ 1 1 [.int .i64 ed] rfl (by (repeat' first | (with_reducible refine Rd.drew ?_) | (with_reducible refine Rd.keptX ?_ hk5 ?_) | ((with_reducible refine Rd.new1 _ _ _ _ ?_);first | rfl | (simp;done)) | (with_reducible refine Rd.alloc ?_ _) | (simp [Value.ownBlock];done))) (fun h => by cases h) (by intro u hu;simp at hu;subst hu;rfl) (nj + 1) rfl ((pa ++ [ed]).map (Value.int .i64)) (by simp) (by unfold maxLen;omega) (by omega) (by have:=hkk5.size;first | (simp;done) | (simp;omega) | omega) ?_;intro A6 c6 w6 hown6 hk6 hat6;have hkk6 : Kept [] wc w6:=kept_fresh (by (repeat' first | (with_reducible assumption) | (with_reducible exact Kept.refl _ _) | (with_reducible refine Kept.alloc ?_ _) | (with_reducible refine Kept.call ?_ (by assumption)) | (with_reducible refine Kept.drewN ?_ _) | (with_reducible refine Kept.drew ?_) | (simp;done) | omega | (simp;omega))) hk6 (fun y hy => (ho5.out y (by simpa using hy)).1);have hkX6 : Kept (Value.slice Dn kd cn2).ownBlock.toList wc w6:=keptWide hkk6 (by simp);have ho6:=Lib.hid (SIn.of_own hown6)) | (refine step_append_rd _ rfl (.tmp 115) (.tmp 128) 49 rfl V.heap.size 30 i1 (.slice none 0 0) 1 24 Tryz.underlying49 hinf1 hy0 hy1 hy2 rfl (by decide) (.slice Dn kd cn2) kd vs2 rfl (own_keptT (X:=[]) HO2.out (by (repeat' first | (with_reducible assumption) | (with_reducible exact Kept.refl _ _) | (with_reducible refine Kept.alloc ?_ _) | (with_reducible refine Kept.call ?_ (by assumption)) | (with_reducible refine Kept.drewN ?_ _) | (with_reducible refine Kept.drew ?_) | (simp;done) | omega | (simp;omega))) (by simp)) _ 1 1 [.slice A6 (nj + 1) c6] rfl (by (repeat' first | (with_reducible refine Rd.drew ?_) | (with_reducible refine Rd.keptX ?_ hk6 ?_) | ((with_reducible refine Rd.new1 _ _ _ _ ?_);first | rfl | (simp;done)) | (with_reducible refine Rd.alloc ?_ _) | (simp [Value.ownBlock];done))) (fun h => by cases h) (by intro u hu;simp at hu;subst hu;rfl) (kd + 1) rfl _ rfl (by unfold maxLen;omega) (by omega) (by have:=hkk6.size;have:=hkcV.size;first | (simp;done) | (simp;omega) | omega) ?_;intro A7 c7 w7 hown7 hk7 hat7;have hkX7 : Kept (Value.slice Dn kd cn2).ownBlock.toList wc w7:=Kept.next (keptWide (X:=[]) (by (repeat' first | (with_reducible assumption) | (with_reducible exact Kept.refl _ _) | (with_reducible refine Kept.alloc ?_ _) | (with_reducible refine Kept.call ?_ (by assumption)) | (with_reducible refine Kept.drewN ?_ _) | (with_reducible refine Kept.drew ?_) | (simp;done) | omega | (simp;omega))) (by simp)) hk7 (fun y hy => Or.inl hy);have HGE7:=Lib.hid (fun g (hg : (Value.slice A7 (kd + 1) c7).ownBlock = some g) => ((hat7 g hg).imp id (fun h9 => by have:=hkk6.size;first | omega | (simp at h9;omega)) : (Value.slice Dn kd cn2).ownBlock = some g ∨ wc.heap.size ≤ g));have HAM7:=Lib.hid (HFIND.out _ w7 _ _ (pa ++ [ed]) (by (repeat' first | (with_reducible assumption) | (with_reducible exact Kept.refl _ _) | (with_reducible refine Kept.alloc ?_ _) | (with_reducible refine Kept.call ?_ (by assumption)) | (with_reducible refine Kept.drewN ?_ _) | (with_reducible refine Kept.drew ?_) | (simp;done) | omega | (simp;omega))) hk7 hown7 hat7 (vl_own ho6.out (fun x hx => HRC.out x hx) (by (repeat' first | (with_reducible assumption) | (with_reducible exact Kept.refl _ _) | (with_reducible refine Kept.alloc ?_ _) | (with_reducible refine Kept.call ?_ (by assumption)) | (with_reducible refine Kept.drewN ?_ _) | (with_reducible refine Kept.drew ?_) | (simp;done) | omega | (simp;omega)))))))
   all_goals
     go_wp2_with fail
     go_meet
     exact ⟨A7,c7,rfl,HAM7.out,hkX7,HGE7.out⟩
 case rest =>
 rename World => wx
 obtain ⟨D2,cd2,rfl,AMd,hkX,hgD⟩:=hcut
 have hkxV : Kept [] V wx:=hkcV.next hkX (fun y hy => .inr (HRD.out y (.inr (.inl (by simpa using hy)))))
 have ⟨LX,CX,FX⟩:=hkxV.blk (by simp) BV
 have ⟨LT2,CT2,FT2⟩:=hkX.blk (fun hm => by have:=(AMk.out.rng (.inr (.inl (by simpa using hm)))).2;omega) BT
 have F1 : Fx (ow3 (.slice A9 (k1 + 1) c9) (.slice Dn kd cn2) (.slice Ds kd cs2)) (ow3 (.slice A9 (k1 + 1) c9) (.slice D2 (kd + 1) cd2) (.slice Ds kd cs2)) wc wx:=.of hkX (fun x hx => .inl (.inr (.inl (by simpa using hx)))) (fun x hx => by
   rcases hx with hx | hx | hx
   · exact .inl (.inl hx)
   · rcases hgD x hx with h9 | h9
     · exact .inl (.inr (.inl h9))
     · exact .inr h9
   · exact .inl (.inr (.inr hx)))
 have HPT2:=Lib.hid (hpT.fx F1)
 have HPL2:=Lib.hid (HPLc.out.fx F1)
 have AMe:=AMd.kept ((Kept.refl [] wx).alloc (.cells #[.int .i64 sa,.slice A3 n3 c3] 109))
 obtain ⟨vs3,ho3,hfs⟩:=AMe.findS
 have hnl3 : (Sp.sts (Sp.gI es (Sp.fI es s i) ⟨pa,xa,xc⟩ l count k)).length = kd:=by unfold Sp.sts;rw [List.length_map];exact HKD.out
 rw [hnl3] at ho3 hfs
 have HO3:=Lib.hid ho3
 have HFS:=Lib.hid hfs
 have HR3:=Lib.hid (fun y (hy : y ∈ (Value.slice Ds kd cs2).ownBlock.toList) => (AMd.rng (.inr (.inr (by simpa using hy)))).1)
 have hsx:=hkxV.size
 clear ho3 hfs AMe AMd hnl3 CC FC LC CT FT LT hgD F1 hpT BT HPLc
 go_wp2_with (at_builtin;refine wpList_append_rd _ rfl _ _ 112 rfl V.heap.size 109 i2 (.agg #[.int .i64 0,.slice none 0 0]) 2 32 Tryz.underlying112 hinf2 hx0 hx1 hx2 rfl (by decide) (.slice Ds kd cs2) kd vs3 rfl HO3.out (some ⟨wx.heap.size,0,none⟩) 1 1 [.int .i64 sa,.slice A3 n3 c3] rfl (Rd.new2y _ _ _ _ _ rfl) (fun h => by cases h) (by intro u hu;simp at hu;rcases hu with rfl | rfl <;> rfl) (kd + 1) rfl _ rfl (by unfold maxLen;omega) (by omega) (by simp;omega) ?_;intro A8 c8 w8 hown8 hk8 hat8;have HOWN8:=Lib.hid hown8;have HK8:=Lib.hid hk8;have HAT8:=Lib.hid hat8;clear hown8 hk8 hat8)
 have AM8:=Lib.hid (HFS.out _ w8 _ sa _ sc (Kept.refl _ _) HK8.out HOWN8.out HAT8.out ⟨A3,n3,c3,rfl,HPT2.out.fx (.same ((Kept.refl [] wx).alloc _))⟩)
 have hk8V : Kept [] V w8:=(hkxV.alloc (.cells #[.int .i64 sa,.slice A3 n3 c3] 109)).next HK8.out (fun y hy => .inr (HR3.out y hy))
 have ⟨L8,C8,F8⟩:=hk8V.blk (by simp) BV
 have F2 : Fx (ow3 (.slice A9 (k1 + 1) c9) (.slice D2 (kd + 1) cd2) (.slice Ds kd cs2)) (ow3 (.slice A9 (k1 + 1) c9) (.slice D2 (kd + 1) cd2) (.slice A8 (kd + 1) c8)) (wx.alloc (.cells #[.int .i64 sa,.slice A3 n3 c3] 109)) w8:=.of HK8.out (fun x hx => .inl (.inr (.inr (by simpa using hx)))) (fun x hx => by
   rcases hx with hx | hx | hx
   · exact .inl (.inl hx)
   · exact .inl (.inr (.inl hx))
   · rcases HAT8.out x hx with h9 | h9
     · exact .inl (.inr (.inr h9))
     · exact .inr (Nat.le_of_eq h9.symm))
 have HPL8:=Lib.hid ((HPL2.out.fx (.same ((Kept.refl [] wx).alloc (.cells #[.int .i64 sa,.slice A3 n3 c3] 109)))).fx F2)
 have HGS : Hid (Sp.gI es (Sp.fI es s i) ⟨pa,xa,xc⟩ l count (k + 1) = Sp.gI es (Sp.fI es s i) ⟨pa,xa,xc⟩ l count k ++ [⟨pa ++ [ed],sa,sc⟩]):=by
   show _ = _
   rw [Sp.gI_succ HED.out (by rw [HKD.out];exact q7)]
   show _ ++ [(⟨pa ++ [ed],(Sp.stepS es xa xc ed).2.1,(Sp.stepS es xa xc ed).2.2⟩ : Sp.It)] = _
   rw [HST.out]
 have hfin : (∃ (k' : Nat) (Dn : Option Addr) (kd' cn2 : Nat) (Ds : Option Addr) (cs2 : Nat),k' ≤ q ∧ (.slice D2 (kd + 1) cd2 : Value) = .slice Dn kd' cn2 ∧ (.slice A8 (kd + 1) c8 : Value) = .slice Ds kd' cs2 ∧ (.int .i64 (k + 1 : Nat) : Value) = .int .i64 k' ∧ Kept [] V w8 ∧ kd' ≤ count ∧ Hid ((Sp.gI es (Sp.fI es s i) ⟨pa,xa,xc⟩ l count k').length = kd') ∧
   Hid (AM 30 109 V.heap.size w8 (.slice A9 (k1 + 1) c9) (.slice Dn kd' cn2) (.slice Ds kd' cs2) (some ⟨bN,oN,none⟩) (some ⟨bS,oS,none⟩) (Sp.oI s i ++ [pa]) ((Sp.gI es (Sp.fI es s i) ⟨pa,xa,xc⟩ l count k').map Sp.It.pa) (Sp.sts (Sp.gI es (Sp.fI es s i) ⟨pa,xa,xc⟩ l count k')) (s.2.map Sp.It.pa) (Sp.sts s.2)) ∧
   Hid (SInP (ow3 (.slice A9 (k1 + 1) c9) (.slice Dn kd' cn2) (.slice Ds kd' cs2)) w8 (some ⟨bL,oL,none⟩) q cl l)):=by
   refine ⟨k + 1,D2,kd + 1,cd2,A8,c8,by omega,rfl,rfl,rfl,hk8V,by omega,?_,?_,HPL8⟩
   · rw [HGS.out,List.length_append,HKD.out];exact Lib.hid rfl
   · rw [HGS.out,List.map_append]
     rw [show Sp.sts (Sp.gI es (Sp.fI es s i) ⟨pa,xa,xc⟩ l count k ++ [⟨pa ++ [ed],sa,sc⟩]) = Sp.sts (Sp.gI es (Sp.fI es s i) ⟨pa,xa,xc⟩ l count k) ++ [(sa,sc)] by unfold Sp.sts;simp]
     exact AM8
 have HFIN:=Lib.hid hfin
 clear hfin AM8 F2 HPL8 HGS HPL2 HPT2
 refine ⟨?_,by simp [intOf];omega⟩
 have h9:=HFIN.out
 simpa using h9
end Go.Proofs.YtincpmdldpakkaaGreatDoor
