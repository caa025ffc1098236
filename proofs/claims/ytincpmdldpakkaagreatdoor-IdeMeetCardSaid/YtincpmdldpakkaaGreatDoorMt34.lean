/- Texts: Cc Ce Ao Kc Ap Cf. -/
import Derived.Test.YtincpmdldpakkaaGreatDoorMt27
import Derived.Test.YtincpmdldpakkaaGreatDoorMt33
import Derived.Test.YtincpmdldpakkaaGreatDoorMt30
import Derived.Test.YtincpmdldpakkaaGreatDoorMt07
import Derived.Maps.RangeWalk
import Derived.Laws.IdiomRangeMap
import Derived.Test.YtincpmdldpakkaaGreatDoorMt24
namespace Go.Proofs.YtincpmdldpakkaaGreatDoor
open Go.RowKit Go.Df Go.Df.Iv Go.Df.Sp
attribute [local go_sem ↓] Go.wp_at_zero Go.wp_at_succ
set_option maxRecDepth 100000 in
set_option maxHeartbeats 100000000 in
theorem drain1_any {p : Vb} {K : Kn} {w0 : World} {b bs : Nat} {O : Nat → Prop} {G : Gh} {s : St} (w : World) (J : Nat → List (Nat × Nat) → St → Prop) (hJ : Dr p J) (hN1 : K.n1 = p.ns.length) (hNS : p.ns.length ≤ 8192) (hmu : mu0 p ≤ 1000000) (hm : Mem p K w0 b O G w s) (hj : J 0 [] s) (hbs : Blk w bs [.pointer (some ⟨b,0,none⟩)]) (hsb : SafeB O w bs)
   (hdeal : ∀ (w9 : World) (O9 : Nat → Prop) (G9 : Gh) (s9 : St) (n a d : Nat) (rest : List (Nat × Nat)),Mem p K w0 b O9 G9 w9 s9 → J n ((a,d) :: rest) s9 → Blk w9 bs [.pointer (some ⟨b,0,none⟩)] → SafeB O9 w9 bs →
     Calls Tryz.prog 78 #[.int .i64 n,.agg #[.int .i64 a,.int .i64 d],.pointer (some ⟨bs,0,none⟩)] w9 (GetD p K w0 b O9 G9 w9 s9 (J n rest))) :
   Calls Tryz.prog 77 #[.pointer (some ⟨b,0,none⟩),.func (.func 78) #[] #[.pointer (some ⟨bs,0,none⟩)]] w (fun e w' => ∃ s' O' G',e = .returned (.tuple #[]) ∧ Mem p K w0 b O' G' w' s' ∧ Fy K O O' G G' s s' w w' ∧ J 0 [] s' ∧ s'.q = []):=by
 have HK1:=Lib.hid hN1
 have HJ:=Lib.hid hJ
 have HD:=Lib.hid hdeal
 have HSB:=Lib.hid hsb
 have HBS:=Lib.hid hbs
 obtain ⟨PM,hPM⟩ : ∃ PM : Nat → World → Prop,PM = fun m wr => ∃ O1 G1 s1,Mem p K w0 b O1 G1 wr s1 ∧ Fy K O O1 G G1 s s1 w wr ∧ J 0 [] s1 ∧ mea p s1 = m:=⟨_,rfl⟩
 have HPM:=Lib.hid hPM
 have hPM0 : ∃ m,PM m w:=by rw [hPM];exact ⟨_,O,G,s,hm,Fy.refl _ _ _ _ _,hj,rfl⟩
 clear hPM hm hj hbs hsb hdeal hJ hN1
 go_enter Tryz.func77,Tryz.ntmps77
 go_wp2_with fail
 go_loopw [10] (fun _ wr => ∃ m,PM m wr) (fun _ wr => leastM PM wr)
 case atStart => exact hPM0
 case round =>
 clear hPM0
 rename World => wr
 have hex:=hrel
 have hsp:=leastM_spec hex
 obtain ⟨lv,hlv⟩ : ∃ lv,lv = leastM PM wr:=⟨_,rfl⟩
 rw [← hlv] at hsp
 rw [show PM = _ from HPM.out] at hsp
 have HLV:=Lib.hid hlv
 clear hlv
 obtain ⟨O1,G1,s1,MR',FR',JV',hme⟩:=hsp
 have MR:=Lib.hid MR'
 have FR:=Lib.hid FR'
 have JV:=Lib.hid JV'
 have HWF:=Lib.hid (HJ.out.wf _ _ _ JV')
 have HME:=Lib.hid hme
 have BR:=MR.out.box
 unfold sbox at BR
 have ⟨LR,CR,FRb⟩:=BR
 have HQ:=Lib.hid MR.out.queue
 have HRK:=Lib.hid MR.out.rank
 clear MR' FR' JV' hme hex hrel
 cases hq : s1.q with
 | nil =>
   have hqn : G1.qn = 0:=by have h1:=HQ.out.1.1.1;rw [hq] at h1;exact h1.symm
   have HQN:=Lib.hid hqn
   have HQ0 : Hid (Ints wr G1.qA G1.qn []):=Lib.hid (by have h1:=HQ.out.1.1;rw [hq] at h1;exact h1)
   have HQE:=Lib.hid hq
   clear hq hqn
   go_wp2_with (go_at_call 137;refine (pop_no G1.rA G1.qA 0 G1.rc G1.qn G1.qc [] [] _ HRK.out.1 HQ0.out (.inr HQN.out)).mono ?_;rintro e w2 ⟨rA,rn,rc,qA,qn,qc,rfl,hr2,hq2,hb2,hfr2,hfq2⟩)
   refine bodyPost_ret (results_none rfl _ _ _) rfl ?_
   have hke : Kept [] wr (w2.alloc _):=((Kept.refl _ _).call hb2).alloc (.cells #[.slice rA rn rc,.slice qA qn qc] 97)
   exact ⟨s1,O1,G1,rfl,MR.out.kept hke,FR.out.trans (Fy.kept K O1 G1 s1 hke),JV.out,HQE.out⟩
 | cons n r =>
   have hnd:=HWF.out.qn
   rw [hq] at hnd
   have hqN : ∀ x ∈ n :: r,x < p.ns.length:=fun x hx => by
     have h1:=(HWF.out.qp x).1 (by rw [hq];exact hx)
     obtain ⟨y,hy⟩:=List.exists_mem_of_ne_nil _ h1
     exact (HWF.out.pr x y hy).1
   have hn : n < p.ns.length:=hqN n (by simp)
   have HQC : Hid (SIn wr G1.qA G1.qn G1.qc (ofNats (n :: r))):=Lib.hid (by have h1:=HQ.out.1;rw [hq] at h1;exact h1)
   have HND2:=Lib.hid hnd
   have HQL:=Lib.hid hqN
   have HQE:=Lib.hid hq
   have hnK : n < K.n1:=by rw [HK1.out];exact hn
   have hnK' : (n : Int) < (K.n1 : Int):=by omega
   clear hnd hqN hq HQ
   go_upto_region 1 with (go_at_call 137;refine (pop_some _ HRK.out HQC.out HND2.out HQL.out hNS).mono ?_;rintro e w2 ⟨rA,rn,rc,qA,qn,qc,rfl,hr2,hq2,hb2,hfr2,hfq2⟩)
   obtain rfl : rn = 0:=hr2.1.1.symm
   refine wp_named (fun V => ∃ y,w2.heap.size = y ∧ Blk V y [.slice rA 0 rc,.slice qA qn qc] ∧ Kept [] w2 V) ⟨_,rfl,Blk.new _ _ _ _ rfl,(Kept.refl _ _).alloc _⟩ ?_
   rintro V5 ⟨y,ey,By,hkV⟩
   rw [ey]
   have ⟨Ly,Cy,Fy'⟩:=By
   have hk5 : Kept [] wr V5:=keptTrans ((Kept.refl _ _).call hb2) hkV
   have MV:=Lib.hid (MR.out.kept hk5)
   have FV:=Lib.hid (FR.out.trans (Fy.kept K O1 G1 s1 hk5))
   have HQV : Hid (SInO O1 V5 qA qn qc (ofNats r)):=Lib.hid ((SInO.new (O:=O1) hq2 hfq2 (fun x hx => (MR.out.og x hx).2)).fx (.same hkV))
   have HRV : Hid (SIn V5 rA 0 rc []):=Lib.hid (hr2.kept hkV)
   have BV:=MV.out.box
   unfold sbox at BV
   have ⟨LV,CV,FVb⟩:=BV
   clear CR FRb ey hq2 hr2 HRK HQC MR
   go_upto_region 3 with fail
   have hset:=MV.out.set_queue HQV.out HRV.out
   refine wp_named (fun X => ∃ G2,Mem p K w0 b O1 G2 X (s1.setQ r) ∧ Fy K O1 O1 G1 G2 s1 (s1.setQ r) V5 X) ⟨_,hset⟩ ?_
   rintro X ⟨G2,MX',FX'⟩
   have MX:=Lib.hid MX'
   have FXX:=Lib.hid (FV.out.trans FX')
   have BX5:=MX.out.box
   unfold sbox at BX5
   have ⟨LX5,CX5,FX5⟩:=BX5
   obtain ⟨Ab,mb,cb,hpv,hmb⟩ : ∃ A9 m9 c9,G2.pv n = .slice A9 m9 c9 ∧ m9 = (s1.pd n).length:=by
     rcases (MX.out.pown n hnK).2 with ⟨h1,h2⟩ | ⟨g',cap,cur,h1,_⟩
     · exact ⟨_,_,_,h1,h2.symm⟩
     · exact ⟨_,_,_,h1,rfl⟩
   have OWN : Hid (X.ownsRow w0.heap.size 101 2 (.slice Ab mb cb) mb (pcells (s1.pd n))):=Lib.hid (by have h9:=MX.out.pown n hnK;rw [hpv,show ((s1.setQ r).pd n).length = mb from hmb.symm] at h9;exact h9)
   have rP : X.cell? ⟨K.pr,n,none⟩ = some (.slice Ab mb cb):=by rw [← hpv];exact MX.out.prow n hnK
   have fP:=MX.out.ptag.frozen n
   have hprX : K.pr < X.heap.size:=MX.out.ptag.lt
   obtain ⟨O3,G3,M3',F3',h3o⟩:=MX.out.set_nil (n:=n) hnK
   have HSB2 : Hid (∀ a,Ab = some a → SafeB O3 (X.setCell ⟨K.pr,n,none⟩ (.slice none 0 0)) a.block ∧ a.block ≠ K.pr ∧ a.block < X.heap.size):=fun a ha => by
     have h1 : (G2.pv n).ownBlock = some a.block:=by rw [hpv,ha];rfl
     have h2:=(own_tag (MX.out.pown n hnK) h1).ne MX.out.ptag (by decide)
     have h4:=(MX.out.og _ (MX.out.opv n a.block hnK h1)).2
     exact ⟨⟨by simpa [World.setCell] using h4,fun ho => h3o _ ho h1⟩,h2,h4⟩
   have HMB:=Lib.hid hmb
   have hmb20 : mb ≤ 1000000:=by
     have h1:=MX.out.pb n hnK
     have h2:=HWF.out.kb 4
     have h3 : (s1.setQ r).k 4 = s1.k 4:=rfl
     have h5 : ((s1.setQ r).pd n).length = (s1.pd n).length:=rfl
     omega
   clear CV FVb Cy Fy' hset MX' FX' hmb hpv h3o
   go_upto_region 5 with fail
   refine wp_named (fun Y => Mem p K w0 b O3 G3 Y (popS s1 n r) ∧ Fy K O1 O3 G2 G3 (s1.setQ r) (popS s1 n r) X Y ∧ (∀ a,Ab = some a → SafeB O3 Y a.block) ∧ Kept [K.pr] X Y) ⟨M3',F3',fun a ha => (HSB2.out a ha).1,(Kept.refl _ _).set K.pr n _ (.inl (by simp))⟩ ?_
   rintro Y ⟨MY',FY',hSY,hkXY⟩
   have MY:=Lib.hid MY'
   have FYY:=Lib.hid (FXX.out.trans FY')
   have HSY:=Lib.hid hSY
   have HPOP:=Lib.hid (HJ.out.pop s1 n r JV.out HQE.out)
   have HBC : Hid (∀ i (h : i < (s1.pd n).length),∃ bb,Ab = some ⟨bb,0,none⟩ ∧ Y.cell? ⟨bb,i * 2,none⟩ = some (.int .i64 ((s1.pd n)[i].1 : Nat)) ∧ Y.cell? ⟨bb,i * 2 + 1,none⟩ = some (.int .i64 ((s1.pd n)[i].2 : Nat))):=fun i h => by
     rcases OWN.out.2 with ⟨h1,h2⟩ | ⟨g',cap,cur,h1,_⟩
     · have:=HMB.out;omega
     · injection h1 with e1 e2 e3
       have h2:=HSB2.out _ e1
       obtain ⟨p1,p2⟩:=pcells_at (s1.pd n) h
       have q1:=OWN.out.cells (g:=g') (by rw [e1];rfl) _ _ p1
       have q2:=OWN.out.cells (g:=g') (by rw [e1];rfl) _ _ p2
       rw [add_lit,Nat.zero_add] at q1 q2
       exact ⟨g',e1,(hkXY.cell g' _ h2.2.2 (by simpa using h2.2.1)).trans q1,(hkXY.cell g' _ h2.2.2 (by simpa using h2.2.1)).trans q2⟩
   clear CX5 FX5 rP fP MY' FY' hSY hkXY M3' F3' HSB2 OWN MX FXX
   go_wp2_with fail
   go_loopw [40] (fun s40 wz => ∃ (i : Nat) (s2 : St) (O' : Nat → Prop) (G' : Gh),i ≤ mb ∧ s40 = .int .i64 i ∧ Hid (Mem p K w0 b O' G' wz s2) ∧ Hid (Fy K O O' G G' s s2 w wz) ∧ Hid (Fy K O3 O' G3 G' (popS s1 n r) s2 Y wz) ∧ Hid (J n ((s1.pd n).drop i) s2) ∧ Hid (mea p s2 ≤ mea p (popS s1 n r))) (fun s40 _ => mb - (intOf s40).toNat)
   case atStart => exact ⟨0,popS s1 n r,O3,G3,Nat.zero_le _,rfl,MY,FYY,Lib.hid (Fy.refl _ _ _ _ _),by rw [List.drop_zero];exact HPOP,Nat.le_refl _⟩
   case round =>
   clear MY FYY
   rename World => wz
   obtain ⟨i,s2,O4,G4,hi,rfl,MZ,FZ0,FZ,JZ,LZ⟩:=hrel
   by_cases hlt : i < mb
   · have hi' : i < (s1.pd n).length:=by rw [← HMB.out];exact hlt
     obtain ⟨bb,rfl,c1',c2'⟩:=HBC.out i hi'
     have hsb:=HSY.out _ rfl
     obtain ⟨a,d,had⟩ : ∃ a d,(s1.pd n)[i] = (a,d):=⟨_,_,rfl⟩
     rw [had] at c1' c2'
     replace c1':=(hsb.cell FZ.out.fx (i * 2)).trans c1'
     replace c2':=(hsb.cell FZ.out.fx (i * 2 + 1)).trans c2'
     have hbz:=(hsb.fx FZ.out.fx).1
     have hi1 : (i : Int) < (mb : Int):=by omega
     have HDR : Hid ((s1.pd n).drop i = (a,d) :: (s1.pd n).drop (i + 1)):=Lib.hid (by rw [List.drop_eq_getElem_cons hi',had])
     have HJJ : Hid (J n ((a,d) :: (s1.pd n).drop (i + 1)) s2):=Lib.hid (by have h1:=JZ.out;rw [HDR.out] at h1;exact h1)
     clear had
     go_upto_region 8 with fail
     refine wp_named (fun V => ∃ y,wz.heap.size = y ∧ Blk V y [.int .i64 a,.int .i64 d] ∧ Kept [] wz V) ⟨_,rfl,Blk.new _ _ _ _ rfl,(Kept.refl _ _).alloc _⟩ ?_
     rintro V7 ⟨y7,ey,By7,hkV7⟩
     rw [ey]
     have ⟨Ly7,Cy7,Fy7⟩:=By7
     have M7:=Lib.hid (MZ.out.kept hkV7)
     have F7:=Fy.kept K O4 G4 s2 hkV7
     have HDL : Hid (Calls Tryz.prog 78 #[.int .i64 n,.agg #[.int .i64 a,.int .i64 d],.pointer (some ⟨bs,0,none⟩)] V7 (GetD p K w0 b O4 G4 V7 s2 (J n ((s1.pd n).drop (i + 1))))):=HD.out V7 O4 G4 s2 n a d _ M7.out HJJ.out (HSB.out.blk (FZ0.out.trans F7).fx HBS.out) (HSB.out.fx (FZ0.out.trans F7).fx)
     clear c1' c2' ey
     go_wp2_with (go_at_call 78;refine HDL.out.mono ?_;rintro e w8 ⟨s8,O8,G8,rfl,M8,F8,J8,L8⟩)
     exact ⟨⟨i + 1,s8,O8,G8,by omega,by go_num,M8,FZ0.out.trans (F7.trans F8),FZ.out.trans (F7.trans F8),J8,Nat.le_trans L8 LZ.out⟩,by simp [intOf];omega⟩
   · obtain rfl : mb = i:=by omega
     have HJE : Hid (J n [] s2):=by have h1:=JZ.out;rw [HMB.out,List.drop_length] at h1;exact h1
     have hpop:=mea_pop (p:=p) HQE.out
     have hlm : PM (mea p s2) wz:=by
       rw [HPM.out]
       exact ⟨O4,G4,s2,MZ.out,FZ0.out,HJ.out.rest n s2 HJE.out,rfl⟩
     have hl2:=leastM_le hlm
     have HLM:=Lib.hid hlm
     have HL2:=Lib.hid hl2
     have HPP:=Lib.hid hpop
     clear hlm hl2 hpop
     go_wp2_with fail
     refine ⟨⟨_,HLM.out⟩,?_⟩
     have h1:=HL2.out;have h2:=LZ.out;have h3:=HPP.out;have h4:=HME.out;have h5:=HLV.out
     omega
set_option maxRecDepth 100000 in
set_option maxHeartbeats 4000000 in
theorem deal1_any {p : Vb} {K : Kn} {w0 : World} {b bs : Nat} {O : Nat → Prop} {G : Gh} {s : St} (w : World) (n a d : Nat) (hI : Inp p K w0) (hgv : Gv w0) (ho : VOk p) (hf : VFit p) (hmu : mu0 p ≤ 1000000) (hg : Iv.Good p s) (hm : Mem p K w0 b O G w s) (hn : n < p.ns.length) (ha : a < p.F.toNat) (hd : d < p.F.toNat) (hxt : s.T n a d ≠ top) (hsdn : p.sd.length ≤ 1000000) (hbs : Blk w bs [.pointer (some ⟨b,0,none⟩)]) :
   Calls Tryz.prog 78 #[.int .i64 n,.agg #[.int .i64 a,.int .i64 d],.pointer (some ⟨bs,0,none⟩)] w (GetP p K w0 b O G w s fun t => Did p n a d (s.T n a d) t):=by
 have HM:=Lib.hid hm
 have HG:=Lib.hid hg
 have HI:=Lib.hid hI
 have HGV:=Lib.hid hgv
 have HO:=Lib.hid ho
 have HFI:=Lib.hid hf
 have HMU:=Lib.hid hmu
 have HXT:=Lib.hid hxt
 clear hm hg hI hgv ho hf hmu hxt
 go_enter Tryz.func78,Tryz.ntmps78
 go_upto_region 1 with fail
 refine wp_named (fun W => ∃ b0,w.heap.size = b0 ∧ Blk W b0 [.int .i64 a,.int .i64 d] ∧ Below w.heap.size w W) ⟨_,rfl,?_,?_⟩ ?_
 · exact kbn
 · go_grown
 rintro W ⟨b0,e0,B0,hB⟩
 rw [e0]
 have G0 : w.heap.size ≤ b0:=by omega
 clear e0
 have ⟨L0,C0,F0⟩:=B0
 have hkW : Kept [] w W:=(Kept.refl _ _).call hB
 have ⟨LS,CS,FS⟩:=hkW.blk (by simp) hbs
 have HST : Hid (Calls Tryz.prog 79 #[.pointer (some ⟨b,0,none⟩),.int .i64 n,.int .i64 a,.int .i64 d] W (GetP p K w0 b O G w s fun t => Did p n a d (s.T n a d) t)):=(step_any W n a d HI.out HGV.out HO.out HFI.out HMU.out HG.out (HM.out.kept hkW) hn ha hd HXT.out hsdn).mono (fun e w' h9 => h9.from hkW)
 go_wp2_with (go_at_call 79;refine HST.out.mono ?_;rintro e w9 ⟨s9,O9,G9,rfl,M9,F9,E9,D9⟩)
 go_end0
 exact ⟨s9,O9,G9,rfl,M9,F9,E9,D9⟩
def Tab (p : Vb) (n : Nat) (rest : List (Nat × Nat)) (s : St) : Prop:=Inv p n rest s ∧ s.V = fun _ _ => topV
theorem tab_dr (p : Vb) : Dr p (Tab p):=⟨fun _ _ _ h => h.1.good.wf,fun _ _ _ h hq => ⟨h.1.pop hq,h.2⟩,fun _ _ h => ⟨h.1.rest0 0,h.2⟩⟩
theorem drain1_ok {p : Vb} {K : Kn} {w0 : World} {b bs : Nat} {O : Nat → Prop} {G : Gh} {s : St} (w : World) (hI : Inp p K w0) (hgv : Gv w0) (ho : VOk p) (hf : VFit p) (hmu : mu0 p ≤ 1000000) (hm : Mem p K w0 b O G w s) (hj : Tab p 0 [] s) (hsdn : p.sd.length ≤ 1000000) (hbs : Blk w bs [.pointer (some ⟨b,0,none⟩)]) (hsb : SafeB O w bs) :
   Calls Tryz.prog 77 #[.pointer (some ⟨b,0,none⟩),.func (.func 78) #[] #[.pointer (some ⟨bs,0,none⟩)]] w (fun e w' => ∃ s' O' G',e = .returned (.tuple #[]) ∧ Mem p K w0 b O' G' w' s' ∧ Fy K O O' G G' s s' w w' ∧ Tab p 0 [] s' ∧ s'.q = []) :=
 drain1_any w (Tab p) (tab_dr p) hI.nd.1.symm (If.sup_parts ho.sup).1 hmu hm hj hbs hsb (fun w9 O9 G9 s9 n a d rest hm9 hj9 hb9 _ => by
   have hr:=hj9.1.rst (a,d) (by simp)
   refine (deal1_any w9 n a d hI hgv ho hf hmu hj9.1.good hm9 hr.1 hr.2.1 hr.2.2.1 hr.2.2.2 hsdn hb9).mono ?_
   rintro e w' ⟨s',O',G',he,hm',hf',hx',hd'⟩
   exact ⟨s',O',G',he,hm',hf',⟨hj9.1.step ho hx'.gw hx'.good hd',hx'.gw.V.trans hj9.2⟩,hx'.mea⟩)
theorem Inp.kept8 {p : Vb} {K : Kn} {w w' : World} (h : Inp p K w) (hk : Kept [] w w') : Inp p K w':=by
 have hb:=hk.toBelow
 refine ⟨h.nd.later hb,h.ed.later hb,h.fl.later hb,h.sd.later hb,fun b o i A n c e hi hc => ?_⟩
 obtain ⟨b',o',e',hl,hc'⟩:=h.fl.2 (by omega)
 rw [e] at e'
 injection e' with e'
 injection e' with e1 e2
 subst e1 e2
 exact h.fc b o i A n c e hi ((hb.cell (p:=⟨b,_,none⟩) hl).symm.trans hc)
def GetTb (p : Vb) (K0 : Kn) (w : World) (e : Ending) (w' : World) : Prop :=
 ∃ (w0 : World) (K : Kn) (g : Nat) (O : Nat → Prop) (G : Gh) (s : St),e = .returned (.pointer (some ⟨g,0,none⟩)) ∧ Below w.heap.size w w0 ∧ Inp p K w0 ∧ Mem p K w0 g O G w' s ∧ Tab p 0 [] s ∧ s.q = [] ∧ K.n1 = K0.n1
set_option maxRecDepth 100000 in
set_option maxHeartbeats 8000000 in
theorem tab_any {p : Vb} {K0 : Kn} (w : World) (mN f : Nat) (hI : Inp p K0 w) (hgv : Gv w) (ho : VOk p) (hf : VFit p) (hmn : p.mn = (mN : Int)) (hF : p.F = (f : Int)) (hn4 : K0.n4 ≤ 1000000) (hmu : mu0 p ≤ 1000000) :
   Calls Tryz.prog 32 #[.agg #[.slice K0.A1 K0.n1 K0.c1,.slice K0.A2 K0.n2 K0.c2,.int .i64 (mN : Nat),.int .i64 (f : Nat),.slice K0.A3 K0.n3 K0.c3,.slice K0.A4 K0.n4 K0.c4]] w (GetTb p K0 w):=by
 have HI:=Lib.hid hI
 have HGV:=Lib.hid hgv
 have HO:=Lib.hid ho
 have HFI:=Lib.hid hf
 have HMN:=Lib.hid hmn
 have HF:=Lib.hid hF
 have HMU:=Lib.hid hmu
 have hmain:=If.main_in (If.sup_parts ho.sup).2.2.1
 have hmnN : mN < p.ns.length:=by omega
 have hF0 : 0 < p.F.toNat:=by have:=ho.f1;omega
 have hsdn : p.sd.length ≤ 1000000:=by have:=hI.sd.1;omega
 clear hI hgv ho hf hmn hF hmu hmain
 go_enter Tryz.func32,Tryz.ntmps32
 go_upto_region 1 with fail
 refine wp_named (fun W => ∃ b0,w.heap.size = b0 ∧ Blk W b0 [.slice K0.A1 K0.n1 K0.c1,.slice K0.A2 K0.n2 K0.c2,.int .i64 (mN : Nat),.int .i64 (f : Nat),.slice K0.A3 K0.n3 K0.c3,.slice K0.A4 K0.n4 K0.c4] ∧ Below w.heap.size w W) ⟨_,rfl,?_,?_⟩ ?_
 · exact kbn
 · go_grown
 rintro W ⟨b0,e0,B0,hB⟩
 rw [e0]
 have G0 : w.heap.size ≤ b0:=by omega
 clear e0
 have ⟨L0,C0,F0⟩:=B0
 have hkW : Kept [] w W:=(Kept.refl _ _).call hB
 have HIW:=Lib.hid (Inp.kept8 HI.out hkW)
 have HNEW : Hid (Calls Tryz.prog 75 #[.agg #[.slice K0.A1 K0.n1 K0.c1,.slice K0.A2 K0.n2 K0.c2,.int .i64 (mN : Nat),.int .i64 (f : Nat),.slice K0.A3 K0.n3 K0.c3,.slice K0.A4 K0.n4 K0.c4]] W (GetNew p W K0.A1 K0.A2 K0.A3 K0.A4 K0.n1 K0.c1 K0.n2 K0.c2 K0.n3 K0.c3 K0.n4 K0.c4)) :=
   new_any _ _ _ _ _ _ _ _ _ _ _ _ mN (f : Int) W HMN.out HF.out HIW.out.nd HIW.out.ed HIW.out.fl HIW.out.fc HIW.out.sd HO.out hn4
 go_upto_region 2 with (go_at_call 75;refine HNEW.out.mono ?_;rintro e w1 ⟨K,g,O,G,rfl,hI1,hM1,-,ek1,-⟩)
 have HM1:=Lib.hid hM1
 have HI1:=Lib.hid hI1
 have HEK:=Lib.hid ek1
 refine wp_named (fun V => ∃ gs,w1.heap.size = gs ∧ Blk V gs [.pointer (some ⟨g,0,none⟩)] ∧ Kept [] w1 V) ⟨_,rfl,Blk.new _ _ _ _ rfl,(Kept.refl _ _).alloc _⟩ ?_
 rintro V ⟨gs,egs,Bgs,hkV⟩
 rw [egs]
 have MV:=Lib.hid (HM1.out.kept hkV)
 have hlowV:=MV.out.low
 have hgsW : w1.heap.size ≤ gs:=by omega
 have SGS : Hid (SafeB O V gs):=HM1.out.fresh hgsW Bgs.1
 have HBG:=Lib.hid Bgs
 have ⟨Lg,Cg,Fg⟩:=Bgs
 have B0V : Blk V b0 [.slice K0.A1 K0.n1 K0.c1,.slice K0.A2 K0.n2 K0.c2,.int .i64 (mN : Nat),.int .i64 (f : Nat),.slice K0.A3 K0.n3 K0.c3,.slice K0.A4 K0.n4 K0.c4]:=⟨Nat.lt_of_lt_of_le L0 hlowV.size,fun i => (hlowV.cell (p:=⟨b0,i,none⟩) L0).trans (B0.2.1 i),fun i => (hlowV.frozen (p:=⟨b0,i,none⟩) L0).trans (B0.2.2 i)⟩
 have ⟨L0',C0',F0'⟩:=B0V
 have gv:=HGV.out.later (hkW.toBelow.trans (hlowV.mono hkW.size))
 have gv0:=gv.c0
 have gv1:=gv.c1
 have gv2:=gv.c2
 have gvl:=gv.lt
 have HN1 : K.n1 = p.ns.length:=HI1.out.nd.1.symm
 have HN2 : K.n1 ≤ 8192:=by have h1:=(If.sup_parts HO.out.sup).1;omega
 have HINC : Hid (Calls Tryz.prog 76 #[.pointer (some ⟨g,0,none⟩),.int .i64 mN,.int .i64 0,.int .i64 0,.agg #[.int .i64 2,.int .i64 0,.int .i64 0]] V (GetS p K W g O G V st0 (st0.inc mN 0 0 shift))) :=
   include_any V mN 0 0 shift 2 0 0 rfl MV.out (st0_wf p) HN1 HN2 HO.out.f2 HMU.out hmnN hF0 hF0
 clear gv hI1 hM1 ek1 egs C0 F0 B0V hlowV
 go_upto_region 3 with (go_at_call 76;refine HINC.out.mono ?_;rintro e w2 ⟨O2,G2,rfl,M2',F2'⟩)
 have M2:=Lib.hid M2'
 have F2:=Lib.hid F2'
 have SG2 : Hid (SafeB O2 w2 gs):=SGS.out.fx F2'.fx
 have HB2:=Lib.hid (SGS.out.blk F2'.fx HBG.out)
 have ⟨Lg2,Cg2,Fg2⟩:=HB2.out
 have HTA : Hid (Tab p 0 [] (st0.inc mN 0 0 shift)):=by
   have h1:=init_inv HO.out
   rw [HMN.out,Int.toNat_natCast] at h1
   exact ⟨h1,(inc_gw st0 mN 0 0 shift).V⟩
 have HDR : Hid (Calls Tryz.prog 77 #[.pointer (some ⟨g,0,none⟩),.func (.func 78) #[] #[.pointer (some ⟨gs,0,none⟩)]] w2 (fun e w' => ∃ s' O' G',e = .returned (.tuple #[]) ∧ Mem p K W g O' G' w' s' ∧ Fy K O2 O' G2 G' (st0.inc mN 0 0 shift) s' w2 w' ∧ Tab p 0 [] s' ∧ s'.q = [])) :=
   drain1_ok w2 HI1.out (HGV.out.later hkW.toBelow) HO.out HFI.out HMU.out M2.out HTA.out hsdn HB2.out SG2.out
 clear M2' F2' Cg Fg C0' F0' gv0 gv1 gv2
 go_upto_region 4 with (go_at_call 77;refine HDR.out.mono ?_;rintro e w3 ⟨s3,O3,G3,rfl,M3',F3',T3,Q3⟩)
 have M3:=Lib.hid M3'
 have HT3:=Lib.hid T3
 have HQ3:=Lib.hid Q3
 have ⟨Lg3,Cg3,Fg3⟩:=SG2.out.blk F3'.fx HB2.out
 clear M3' F3' T3 Q3 Cg2 Fg2
 go_wp2_with fail
 go_ret
 exact ⟨W,K,g,O3,G3,s3,rfl,hkW.toBelow,HI1.out,M3.out,HT3.out,HQ3.out,HEK.out⟩
end Go.Proofs.YtincpmdldpakkaaGreatDoor
namespace Go.Df
open Go.RowKit Go.Maps Go.ChangeMaps
def RgT (P : Program) (k : TypeId) (z : Value) (w : World) (b r n : Nat) (f : Value → Value) (left : Lit → Bool) (cnt : Nat) : Prop :=
 ∃ D : DataW Value,w.ranges P k tokElem b r n D left cnt ∧ Reads P k z D f
variable {P : Program} {k : TypeId} {z : Value} {w w' : World} {b r n : Nat} {f : Value → Value} {left : Lit → Bool} {cnt : Nat}
theorem RgT.left_eq (h : RgT P k z w b r n f left cnt) : w.rangeLeft b r = cnt:=let ⟨_,h1,_⟩:=h;h1.left_eq
theorem RgT.lt (h : RgT P k z w b r n f left cnt) : r < w.heap.size:=let ⟨_,h1,_⟩:=h;h1.lt
theorem RgT.grown {row : Option Nat} (h : RgT P k z w b r n f left cnt) (hg : w.grownBy w' row) (hb : some b ≠ row) (hr : some r ≠ row) : RgT P k z w' b r n f left cnt :=
 let ⟨D,h1,h2⟩:=h;⟨D,h1.kept hg hb hr,h2⟩
theorem kept_of_grown {row : Option Nat} (h : w.grownBy w' row) : Kept row.toList w w' :=
 ⟨h.os,h.tape,h.output,h.size,fun i hi hn => h.block i hi (fun e => hn (by rw [← e];simp))⟩
theorem RgT.kept {X : List Nat} (h : RgT P k z w b r n f left cnt) (hk : Kept X w w') (hb : b ∉ X) (hr : r ∉ X) : RgT P k z w' b r n f left cnt:=by
 obtain ⟨D,⟨es,clock,since,seen,c0,h1,F,hs,hD,h2,rest⟩,h3⟩:=h
 have hlb:=(Array.getElem?_eq_some_iff.1 h1).1
 have hlr:=(Array.getElem?_eq_some_iff.1 h2).1
 exact ⟨D,⟨es,clock,since,seen,c0,(hk.block b hlb hb).trans h1,F,hs,hD,(hk.block r hlr hr).trans h2,rest⟩,h3⟩
section
variable {ops : Array Oper} {rest : List Oper} {o : Oper} {a : Act} {Q : Exit → Act → World → Prop}
theorem wpList_range_mapT (hg : o.guard = none) (m : Operand) (t : TypeId) (hop : o.op = Op.range t m) (e : TypeId) (K : Keyed P k) (ht : P.underlying t = some (.map k e))
   (hm : a.eval m = .map (some b)) (hown : MapT P k z w b n f)
   (hK : ∀ w' left cnt,RgT P k z w' b w.heap.size n f left cnt → (∀ key kl,keyOf P k key = some kl → left kl = false → f key = z) → Kept [] w w' → w'.heap.size = w.heap.size + 1 → wpList P ops Q rest (a.put o.dst (.pointer (some ⟨w.heap.size,0,none⟩))) w') :
   wpList P ops Q (o :: rest) a w:=by
 obtain ⟨D,h1,h2⟩:=hown
 refine wpList_range_own w hg m t hop k e K ht tokElem b n D hm h1 fun w' hr hgr hsz => ?_
 refine hK w' _ _ ⟨D,hr,h2⟩ (fun key kl hk hl => ?_) (kept_of_grown hgr) hsz
 have h3:=(h2 key kl hk).1
 rw [atKey_of_not_has hl] at h3
 injection h3 with h3
 exact h3.symm
end
def RgO (P : Program) (k : TypeId) (z : Value) (w : World) (m : Option Nat) (r n : Nat) (f : Value → Value) (left : Lit → Bool) (cnt : Nat) : Prop :=
 match m with
 | some b => RgT P k z w b r n f left cnt
 | none => w.heap[r]? = some (.mapIter none 0 #[] 0) ∧ cnt = 0 ∧ ∀ kl,left kl = false
def leftO (w : World) (m : Option Nat) (r : Nat) : Nat:=match m with | some b => w.rangeLeft b r | none => 0
theorem RgO.left_eq {m : Option Nat} (h : RgO P k z w m r n f left cnt) : leftO w m r = cnt:=by
 cases m with
 | some b => exact RgT.left_eq h
 | none => exact h.2.1.symm
theorem RgO.lt {m : Option Nat} (h : RgO P k z w m r n f left cnt) : r < w.heap.size:=by
 cases m with
 | some b => exact RgT.lt h
 | none => exact (Array.getElem?_eq_some_iff.1 h.1).1
theorem RgO.kept {m : Option Nat} {X : List Nat} (h : RgO P k z w m r n f left cnt) (hk : Kept X w w') (hb : ∀ b,m = some b → b ∉ X) (hr : r ∉ X) : RgO P k z w' m r n f left cnt:=by
 cases m with
 | some b => exact RgT.kept h hk (hb b rfl) hr
 | none => exact ⟨(hk.block r (RgO.lt (m:=none) h) hr).trans h.1,h.2⟩
section
variable {ops : Array Oper} {rest : List Oper} {o : Oper} {a : Act} {Q : Exit → Act → World → Prop}
theorem wpList_range_mapO (hg : o.guard = none) (m : Operand) (t : TypeId) (hop : o.op = Op.range t m) (e : TypeId) (K : Keyed P k) (ht : P.underlying t = some (.map k e)) (mm : Option Nat)
   (hm : a.eval m = .map mm) (hown : ∀ b,mm = some b → MapT P k z w b n f) (hno : mm = none → ∀ key,f key = z)
   (hK : ∀ w' left cnt,RgO P k z w' mm w.heap.size n f left cnt → (∀ key kl,keyOf P k key = some kl → left kl = false → f key = z) → Kept [] w w' → w'.heap.size = w.heap.size + 1 → wpList P ops Q rest (a.put o.dst (.pointer (some ⟨w.heap.size,0,none⟩))) w') :
   wpList P ops Q (o :: rest) a w:=by
 cases mm with
 | some b => exact wpList_range_mapT hg m t hop e K ht hm (hown b rfl) (fun w' left cnt h => hK w' left cnt h)
 | none =>
   refine wpList_plain hg fun K' hK' => ?_
   unfold Oper.wp
   simp [execOp,hop,hm,run_range_nilMap w t k e ht,Result.andThen]
   exact hK' _ _ (hK _ (fun _ => false) 0 ⟨heap_alloc_new w _,rfl,fun _ => rfl⟩ (fun key _ _ _ => hno rfl key) ((Kept.refl _ _).alloc _) (by simp))
end
end Go.Df
namespace Go.Df
open Go.RowKit Go.Maps Go.ChangeMaps
theorem keyOf_two_inv {P : Program} {k e : TypeId} {x y : String} (h : fieldsOf P k = [(x,e,0),(y,e,1)]) (hc : P.cellsOf k = 2) (he : P.underlying e = some (.int .i64)) (hce : P.cellsOf e = 1) (hrow : k < P.types.size)
   {key : Value} {kl : Lit} (hk : keyOf P k key = some kl) : ∃ a b,key = .agg #[.int .i64 a,.int .i64 b] ∧ (Lit.int .i64 a).wf = true ∧ (Lit.int .i64 b).wf = true:=by
 obtain ⟨fs,hu,hf⟩:=fieldsOf_struct h (by simp)
 obtain ⟨m,hm⟩ : ∃ m,P.types.size = m + 1:=Nat.exists_eq_succ_of_ne_zero (Nat.ne_of_gt (Nat.lt_of_le_of_lt (Nat.zero_le (k : Nat)) hrow))
 unfold keyOf at hk
 rw [hu] at hk
 dsimp only at hk
 split at hk
 · rename_i hfo
   rw [Bool.and_eq_true] at hfo
   have hfo:=hfo.2
   cases key with
   | agg cs =>
     obtain ⟨cl⟩:=cs
     unfold Value.formed at hfo
     rw [hu,hc] at hfo
     have hlen : cl.length = 2:=by simpa using hfo
     have hl : fs.toList.length = 2:=by simpa using congrArg List.length hf
     obtain ⟨fl⟩:=fs
     match fl,cl,hl,hf,hlen with
     | [f0,f1],[c0,c1],_,hf,_ =>
       simp only [List.map_cons,List.map_nil,List.cons.injEq,Prod.mk.injEq,and_true] at hf
       obtain ⟨⟨n0,t0,o0⟩,n1,t1,o1⟩:=hf
       rw [hm] at hk
       simp [Program.keyLits,hu,hc,n0,n1,t0,t1,o0,o1,hce,he,Value.cells] at hk
       obtain ⟨z,⟨-,h1⟩,-⟩:=hk
       obtain ⟨z1,h2,h3⟩:=Option.bind_eq_some_iff.1 h1
       clear h1
       have g1 : ∃ a,c0 = .int .i64 a ∧ (Lit.int .i64 a).wf = true:=by
         cases c0 <;> simp at h2
         obtain ⟨⟨rfl,h5⟩,-⟩:=h2
         exact ⟨_,rfl,h5⟩
       have g2 : ∃ a,c1 = .int .i64 a ∧ (Lit.int .i64 a).wf = true:=by
         cases c1 with
         | int q b =>
           simp at h3
           by_cases hq : q = IntKind.i64 ∧ (Lit.int .i64 b).wf = true
           · obtain ⟨rfl,hb⟩:=hq
             exact ⟨_,rfl,hb⟩
           · rw [if_neg (by rintro ⟨rfl,h5⟩;exact hq ⟨rfl,h5⟩)] at h3
             simp at h3
         | _ => simp at h3
       obtain ⟨a,rfl,ha⟩:=g1
       obtain ⟨b,rfl,hb⟩:=g2
       exact ⟨a,b,rfl,ha,hb⟩
     | [f0,f1],[c0],_,_,h9 => exact absurd h9 (by simp)
     | [f0,f1],[],_,_,h9 => exact absurd h9 (by simp)
     | [f0,f1],c0 :: c1 :: c2 :: r,_,_,h9 => exact absurd h9 (by simp)
     | [],_,h9,_,_ => exact absurd h9 (by simp)
     | [f0],_,h9,_,_ => exact absurd h9 (by simp)
     | f0 :: f1 :: f2 :: r,_,h9,_,_ => exact absurd h9 (by simp)
   | _ => unfold Value.formed at hfo;rw [hu] at hfo;cases hfo
 · cases hk
variable {P : Program} {k : TypeId} {z : Value} {w w' : World} {b r n : Nat} {f : Value → Value} {left : Lit → Bool} {cnt : Nat}
def Came (P : Program) (k : TypeId) (left : Lit → Bool) (key : Value) : Prop:=∃ kl,keyOf P k key = some kl ∧ left kl = false
theorem came_step (K : Keyed P k) {key0 : Value} {kl0 : Lit} (h0 : keyOf P k key0 = some kl0) {left : Lit → Bool} (key : Value) : Came P k (fun y => left y && !y.sameKey kl0) key ↔ (Came P k left key ∨ key = key0):=by
 constructor
 · rintro ⟨kl,h1,h2⟩
   cases hl : left kl with
   | false => exact .inl ⟨kl,h1,hl⟩
   | true =>
     have hl9 : kl.sameKey kl0 = true:=by simpa [hl] using h2
     have e:=WideAt.sameKey_eq hl9
     subst e
     exact .inr (K.inj h1 h0)
 · rintro (⟨kl,h1,h2⟩ | rfl)
   · exact ⟨kl,h1,by simp [h2]⟩
   · exact ⟨kl0,h0,by simp [WideAt.sameKey_self (K.key h0)]⟩
section
variable {ops : Array Oper} {rest : List Oper} {o : Oper} {a : Act} {Q : Exit → Act → World → Prop}
theorem wpList_next_mapP (hg : o.guard = none) (it : Operand) (hop : o.op = Op.next it false) (K : Keyed P k) (hinv : ∀ key kl,keyOf P k key = some kl → ∃ x y,key = .agg #[.int .i64 x,.int .i64 y] ∧ (Lit.int .i64 x).wf = true ∧ (Lit.int .i64 y).wf = true) (mm : Option Nat)
   (hit : a.eval it = .pointer (some ⟨r,0,none⟩)) (h : RgO P k z w mm r n f left cnt)
   (hDone : cnt = 0 → (∀ kl,left kl = false) → wpList P ops Q rest (a.put o.dst (.tuple #[.bool false])) w)
   (hMore : ∀ (x y : Int) (left' : Lit → Bool) (w' : World) (cnt' : Nat),(Lit.int .i64 x).wf = true → (Lit.int .i64 y).wf = true → (∀ key,Came P k left' key ↔ (Came P k left key ∨ key = .agg #[.int .i64 x,.int .i64 y])) → RgO P k z w' mm r n f left' cnt' → cnt' < cnt → Kept [r] w w' → w'.heap.size = w.heap.size → f (.agg #[.int .i64 x,.int .i64 y]) ≠ z →
     (Instr.entry (.pointer (some ⟨r,0,none⟩))).run P w' = .ok (.tuple #[.agg #[.int .i64 x,.int .i64 y],f (.agg #[.int .i64 x,.int .i64 y])]) w' → wpList P ops Q rest (a.put o.dst (.tuple #[.bool true,.agg #[.int .i64 x,.int .i64 y],f (.agg #[.int .i64 x,.int .i64 y])])) w') :
   wpList P ops Q (o :: rest) a w:=by
 cases mm with
 | some b =>
   obtain ⟨D,h1,h2⟩:=h
   refine wpList_next_ranges w hg it hop k K tokElem (id : Value → Value) id (fun key kl hkey => ⟨key,rfl⟩) (fun v y _ => ⟨v,rfl⟩) b r n D left cnt hit h1 hDone ?_
   intro key c kl y w' cnt' hkey hlk hv hat hrg hlt hgr hsz hen
   obtain ⟨x0,y0,rfl,hx0,hy0⟩:=hinv _ _ hkey
   have h3:=(h2 _ _ hkey).1
   rw [hat] at h3
   have h4 : y = (.held c,[]):=by
     have : tokElem (id c) = some y:=hv
     unfold tokElem at this
     exact (Option.some.inj this).symm
   rw [h4] at h3
   injection h3 with h3
   have h3 : c = f (.agg #[.int .i64 x0,.int .i64 y0]):=h3
   subst h3
   exact hMore x0 y0 _ w' cnt' hx0 hy0 (came_step K hkey) ⟨D,hrg,h2⟩ hlt (kept_of_grown hgr) hsz ((h2 _ _ hkey).2 (fun zd => by rw [hat zd,h4];rfl)) hen
 | none =>
   refine wpList_plain hg fun K' hK' => ?_
   have hrun : ∀ ty,(Instr.next (.pointer (some ⟨r,0,none⟩)) false ty).run P w = .ok (.tuple #[.bool false]) w:=fun ty => by
     simp only [Instr.next,getObj,Sem.run_bind,Sem.run,h.1,Result.andThen]
     rfl
   unfold Oper.wp
   simp [execOp,hop,hit,hrun,Result.andThen]
   exact hK' _ _ (hDone h.2.1 h.2.2)
end
end Go.Df
namespace Go.Df
open Go.RowKit
namespace Iv
open Sp
def St.low (s : St) (n a : Nat) (v : U) : St :=
 if meetV (s.V n a) v = s.V n a then s else ((s.setV n a (meetV (s.V n a) v)).setQ (if s.pd n = [] then s.q ++ [n] else s.q)).setP n (s.pd n ++ [(a,a)])
structure GwV (s t : St) : Prop where
 le : ∀ n a,leV (t.V n a) (s.V n a)
 new : ∀ n a,t.V n a ≠ s.V n a → (a,a) ∈ t.pd n
 pd : ∀ n x,x ∈ s.pd n → x ∈ t.pd n
 T : t.T = s.T
 ls : t.ls = s.ls
theorem GwV.refl (s : St) : GwV s s:=⟨fun _ _ => leV_refl _,fun _ _ h => absurd rfl h,fun _ _ h => h,rfl,rfl⟩
theorem GwV.trans {s t u : St} (h : GwV s t) (g : GwV t u) : GwV s u:=by
 refine ⟨fun n a => leV_trans (g.le n a) (h.le n a),fun n a hn => ?_,fun n x hx => g.pd n x (h.pd n x hx),g.T.trans h.T,g.ls.trans h.ls⟩
 by_cases e : u.V n a = t.V n a
 · rw [e] at hn;exact g.pd n _ (h.new n a hn)
 · exact g.new n a e
section
variable {p : Vb} {s t : St} {n a : Nat} {v : U}
theorem low_at (s : St) (n a : Nat) (v : U) : (s.low n a v).V n a = meetV (s.V n a) v:=by
 unfold St.low
 split
 · rename_i h;exact h.symm
 · show (if n = n ∧ a = a then _ else _) = _
   rw [if_pos ⟨rfl,rfl⟩]
theorem low_ne (s : St) (v : U) {n' a' : Nat} (h : ¬ (n' = n ∧ a' = a)) : (s.low n a v).V n' a' = s.V n' a':=by
 unfold St.low
 split
 · rfl
 · exact if_neg h
theorem low_le (s : St) (n a : Nat) (v : U) : leV ((s.low n a v).V n a) v:=by rw [low_at];exact meetV_le_right _ _
theorem low_gw (s : St) (n a : Nat) (v : U) : GwV s (s.low n a v):=by
 refine ⟨fun n' a' => ?_,fun n' a' hne => ?_,fun n' y hy => ?_,?_,?_⟩
 · by_cases e : n' = n ∧ a' = a
   · obtain ⟨rfl,rfl⟩:=e;rw [low_at];exact meetV_le_left _ _
   · rw [low_ne s v e];exact leV_refl _
 · have e : n' = n ∧ a' = a:=Classical.byContradiction fun e => hne (low_ne s v e)
   obtain ⟨rfl,rfl⟩:=e
   have h0 : ¬ meetV (s.V n' a') v = s.V n' a':=fun h => hne (by rw [low_at];exact h)
   unfold St.low
   rw [if_neg h0]
   show (a',a') ∈ if n' = n' then _ else _
   rw [if_pos rfl]
   exact List.mem_append.2 (.inr (by simp))
 · unfold St.low
   split
   · exact hy
   · show y ∈ if n' = n then _ else _
     split
     · rename_i e;subst e;exact List.mem_append.2 (.inl hy)
     · exact hy
 · unfold St.low;split <;> rfl
 · unfold St.low;split <;> rfl
theorem low_mu (hn : n < p.ns.length) (ha : a < p.F.toNat) (h : meetV (s.V n a) v ≠ s.V n a) : mu p (s.low n a v) + 1 ≤ mu p s:=by
 have h1 : muV p (s.low n a v).V < muV p s.V:=by
   refine sum_lt (y:=(n,a)) ?_ _ (fun y _ => ?_) (mem_duo.2 ⟨hn,ha⟩)
   · show stpV ((s.low n a v).V n a) < stpV (s.V n a)
     rw [low_at]
     exact stpV_meet _ _ h
   · show stpV ((s.low n a v).V y.1 y.2) ≤ stpV (s.V y.1 y.2)
     by_cases e : y.1 = n ∧ y.2 = a
     · rw [e.1,e.2,low_at];exact Nat.le_of_lt (stpV_meet _ _ h)
     · rw [low_ne s v e];exact Nat.le_refl _
 have h2 : (s.low n a v).T = s.T:=(low_gw s n a v).T
 unfold mu
 rw [h2]
 omega
theorem low_eq (h : meetV (s.V n a) v ≠ s.V n a) : s.low n a v = ((s.setV n a (meetV (s.V n a) v)).setQ (if s.pd n = [] then s.q ++ [n] else s.q)).setP n (s.pd n ++ [(a,a)]):=by unfold St.low;rw [if_neg h]
theorem low_id (h : meetV (s.V n a) v = s.V n a) : s.low n a v = s:=by unfold St.low;rw [if_pos h]
theorem low_mea (hn : n < p.ns.length) (ha : a < p.F.toNat) : mea p (s.low n a v) ≤ mea p s:=by
 by_cases h : meetV (s.V n a) v = s.V n a
 · rw [low_id h];exact Nat.le_refl _
 · have h1:=low_mu (p:=p) hn ha h
   have h2 : (s.low n a v).q.length ≤ s.q.length + 1:=by
     rw [low_eq h]
     show (if s.pd n = [] then s.q ++ [n] else s.q).length ≤ _
     split
     · simp
     · omega
   unfold mea
   omega
theorem low_wf (hw : Wf p s) (hn : n < p.ns.length) (ha : a < p.F.toNat) : Wf p (s.low n a v):=by
 by_cases h : meetV (s.V n a) v = s.V n a
 · rw [low_id h];exact hw
 have hmu:=low_mu (p:=p) hn ha h
 have e:=low_eq h
 refine ⟨fun n' a' d' h9 => ?_,fun n' a' d' => ?_,fun n' a' d' => ?_,fun i n' a' hi => ?_,?_,fun n' => ?_,fun n' y hy => ?_,fun i => ?_⟩
 · rw [(low_gw s n a v).T] at h9;exact hw.rng _ _ _ h9
 · rw [(low_gw s n a v).T,(low_gw s n a v).ls];exact hw.l1 _ _ _
 · rw [(low_gw s n a v).T,(low_gw s n a v).ls];exact hw.l2 _ _ _
 · rw [(low_gw s n a v).ls];exact hw.ln i n' a' hi
 · rw [e]
   show (if s.pd n = [] then s.q ++ [n] else s.q).Nodup
   split
   · rename_i e2
     rw [List.nodup_append]
     refine ⟨hw.qn,by simp,fun y hy z hz => ?_⟩
     obtain rfl:=List.mem_singleton.1 hz
     rintro rfl
     exact (hw.qp _).1 hy e2
   · exact hw.qn
 · rw [e]
   show n' ∈ (if s.pd n = [] then s.q ++ [n] else s.q) ↔ (if n' = n then s.pd n ++ [(a,a)] else s.pd n') ≠ []
   by_cases e1 : n' = n
   · subst e1
     rw [if_pos rfl]
     split
     · simp
     · rename_i e2;simp [(hw.qp n').2 e2]
   · rw [if_neg e1]
     split
     · rw [List.mem_append,hw.qp];simp [e1]
     · exact hw.qp _
 · rw [e] at hy
   have hy : y ∈ (if n' = n then s.pd n ++ [(a,a)] else s.pd n'):=hy
   split at hy
   · rename_i e1
     subst e1
     rcases List.mem_append.1 hy with hy | hy
     · exact hw.pr _ _ hy
     · obtain rfl:=List.mem_singleton.1 hy
       exact ⟨hn,ha,ha⟩
   · exact hw.pr _ _ hy
 · have h1:=hw.kb i
   have h2 : (s.low n a v).k i ≤ s.k i + 1:=by
     rw [e]
     show bump (bump s.k 3) 4 i ≤ _
     unfold bump
     by_cases e4 : i = 4
     · subst e4;simp
     · rw [if_neg e4]
       split <;> omega
   omega
end
structure GoodV (p : Vb) (T : Nat → Nat → Nat → D) (s : St) : Prop where
 wf : Wf p s
 eT : s.T = T
 snd : VSnd p T s.V
theorem GoodV.low {p : Vb} {T : Nat → Nat → Nat → D} {s : St} (h : GoodV p T s) {n a : Nat} {v : U} (hn : n < p.ns.length) (ha : a < p.F.toNat) (hv : ∀ Y,VClo p T Y → leV (Y n a) v) : GoodV p T (s.low n a v):=by
 refine ⟨low_wf h.wf hn ha,(low_gw s n a v).T.trans h.eT,fun Y hY n' a' => ?_⟩
 by_cases e : n' = n ∧ a' = a
 · obtain ⟨rfl,rfl⟩:=e
   rw [low_at]
   exact le_meetV (h.snd Y hY _ _) (hv Y hY)
 · rw [low_ne s v e]
   exact h.snd Y hY _ _
structure ExV (p : Vb) (T : Nat → Nat → Nat → D) (s t : St) : Prop where
 gw : GwV s t
 good : GoodV p T t
 mea : mea p t ≤ mea p s
theorem ExV.refl {p : Vb} {T : Nat → Nat → Nat → D} {s : St} (h : GoodV p T s) : ExV p T s s:=⟨GwV.refl s,h,Nat.le_refl _⟩
theorem ExV.trans {p : Vb} {T : Nat → Nat → Nat → D} {s t u : St} (h : ExV p T s t) (k : ExV p T t u) : ExV p T s u:=⟨h.gw.trans k.gw,k.good,Nat.le_trans k.mea h.mea⟩
theorem ExV.low {p : Vb} {T : Nat → Nat → Nat → D} {s : St} (h : GoodV p T s) {n a : Nat} {v : U} (hn : n < p.ns.length) (ha : a < p.F.toNat) (hv : ∀ Y,VClo p T Y → leV (Y n a) v) : ExV p T s (s.low n a v):=⟨low_gw s n a v,h.low hn ha hv,low_mea hn ha⟩
structure InvV (p : Vb) (T : Nat → Nat → Nat → D) (n0 : Nat) (rest : List (Nat × Nat)) (s : St) : Prop where
 good : GoodV p T s
 rst : ∀ x ∈ rest,n0 < p.ns.length ∧ x.1 < p.F.toNat
 main : leV (s.V p.mn.toNat 0) botV
 call : ∀ k,k < p.es.length → (ge p.es k).k = 2 → ∀ q ∈ gl p.fl k,∀ a,(∃ c,Pen n0 rest s (If.stOf p.ns (ge p.es k).a.toNat) (a,c)) ∨ leV (s.V (ge p.es k).b.toNat q.o.toNat) (app (comp (T (ge p.es k).a.toNat a q.i.toNat) (xd q)) (s.V (If.stOf p.ns (ge p.es k).a.toNat) a))
def DidV (p : Vb) (T : Nat → Nat → Nat → D) (n a : Nat) (v : U) (t : St) : Prop:=∀ k,k < p.es.length → (ge p.es k).k = 2 → If.stOf p.ns (ge p.es k).a.toNat = n → ∀ q ∈ gl p.fl k,leV (t.V (ge p.es k).b.toNat q.o.toNat) (app (comp (T (ge p.es k).a.toNat a q.i.toNat) (xd q)) v)
section
variable {p : Vb} {T : Nat → Nat → Nat → D} {s t : St} {n0 : Nat} {rest : List (Nat × Nat)}
theorem InvV.step {n a c : Nat} (h : InvV p T n ((a,c) :: rest) s) (g : GwV s t) (hg : GoodV p T t) (hd : DidV p T n a (s.V n a) t) : InvV p T n rest t:=by
 have keep : ∀ {m : Nat} {x : Nat × Nat},x ∈ s.pd m → Pen n rest t m x:=fun hx => .inl (g.pd _ _ hx)
 refine ⟨hg,fun x hx => h.rst x (List.mem_cons_of_mem _ hx),leV_trans (g.le _ _) h.main,fun k hk h2 q hq a' => ?_⟩
 by_cases e : t.V (If.stOf p.ns (ge p.es k).a.toNat) a' = s.V (If.stOf p.ns (ge p.es k).a.toNat) a'
 · rcases h.call k hk h2 q hq a' with ⟨c',hp⟩ | hp
   · rcases hp with hp | ⟨e1,hp⟩
     · exact .inl ⟨c',keep hp⟩
     · rcases List.mem_cons.1 hp with hp | hp
       · injection hp with e2 e3
         right
         rw [e,e2,e1]
         have h9:=hd k hk h2 e1 q hq
         exact h9
       · exact .inl ⟨c',.inr ⟨e1,hp⟩⟩
   · right
     rw [e]
     exact leV_trans (g.le _ _) hp
 · exact .inl ⟨a',.inl (g.new _ _ e)⟩
theorem InvV.pop (h : InvV p T n0 [] s) {n : Nat} {r : List Nat} (hq : s.q = n :: r) : InvV p T n (s.pd n) (popS s n r):=by
 refine ⟨⟨h.good.wf.pop hq,h.good.eT,h.good.snd⟩,fun x hx => ⟨(h.good.wf.pr n x hx).1,(h.good.wf.pr n x hx).2.1⟩,h.main,fun k hk h2 q hq' a => ?_⟩
 rcases h.call k hk h2 q hq' a with ⟨c,hp⟩ | hp
 · left
   refine ⟨c,?_⟩
   rcases hp with hp | ⟨_,hp⟩
   · by_cases e : If.stOf p.ns (ge p.es k).a.toNat = n
     · exact .inr ⟨e,by rw [← e];exact hp⟩
     · refine .inl ?_
       show _ ∈ if _ = n then [] else s.pd _
       rw [if_neg e]
       exact hp
   · cases hp
 · exact .inr hp
theorem InvV.rest0 {n : Nat} (h : InvV p T n [] s) (m : Nat) : InvV p T m [] s :=
 ⟨h.good,(fun x hx => by cases hx),h.main,fun k hk h2 q hq a => (h.call k hk h2 q hq a).imp (fun ⟨c,hp⟩ => ⟨c,hp.imp id (fun h9 => by cases h9.2)⟩) id⟩
theorem InvV.done (h : InvV p T n0 [] s) (hq : s.q = []) : VClo p T s.V:=by
 have no : ∀ {m : Nat} {x : Nat × Nat},¬ Pen n0 [] s m x:=fun {m x} hp => by
   rcases hp with hp | ⟨_,hp⟩
   · have h1 : s.pd m ≠ []:=fun e => by rw [e] at hp;cases hp
     have h2:=(h.good.wf.qp m).2 h1
     rw [hq] at h2
     cases h2
   · cases hp
 exact ⟨h.main,fun k hk h2 q hq' a => (h.call k hk h2 q hq' a).resolve_left (fun ⟨_,hp⟩ => no hp)⟩
theorem initV (hw : Wf p s) (hT : s.T = T) (hV : s.V = fun _ _ => topV) (hn : p.mn.toNat < p.ns.length) (hF : 0 < p.F.toNat) : InvV p T 0 [] (s.low p.mn.toNat 0 botV):=by
 have g0 : GoodV p T s:=⟨hw,hT,fun Y _ n a => by rw [hV];exact leV_top _⟩
 refine ⟨g0.low hn hF (fun Y hY => hY.main),(fun x hx => by cases hx),low_le _ _ _ _,fun k hk h2 q hq a => ?_⟩
 by_cases e : (s.low p.mn.toNat 0 botV).V (If.stOf p.ns (ge p.es k).a.toNat) a = s.V (If.stOf p.ns (ge p.es k).a.toNat) a
 · right
   rw [e,hV,app_topV]
   exact leV_top _
 · exact .inl ⟨a,.inl ((low_gw s _ _ _).new _ _ e)⟩
end
end Iv
end Go.Df
