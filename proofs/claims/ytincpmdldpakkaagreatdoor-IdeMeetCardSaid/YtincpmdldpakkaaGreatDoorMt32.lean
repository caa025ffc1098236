/- Texts: Bx. -/
import Derived.Test.YtincpmdldpakkaaGreatDoorMt31
namespace Go.Proofs.YtincpmdldpakkaaGreatDoor
open Go.RowKit Go.Df Go.Df.Iv Go.Df.Sp
attribute [local go_sem ↓] Go.wp_at_zero Go.wp_at_succ
theorem mem_entL {p : Vb} {k b i : Nat} : i ∈ entL p k b ↔ i < (gl p.fl k).length ∧ (gx (gl p.fl k) i).o = b:=by simp [entL]
set_option maxRecDepth 100000 in
set_option maxHeartbeats 100000000 in
theorem leave_any {p : Vb} {K : Kn} {w0 : World} {b : Nat} {O : Nat → Prop} {G : Gh} {s : St} (w : World) (n c d : Nat) (x : D) (x0 x1 x2 : Int) (hx : x.1 = ⟨x0,x1,x2⟩) (hI : Inp p K w0) (ho : VOk p) (hf : VFit p) (hmu : mu0 p ≤ 1000000) (hg : Iv.Good p s) (hm : Mem p K w0 b O G w s) (hn : n < p.ns.length) (hc : c ≤ 1000000)
   (hsnd : ∀ Y,Clo p Y → le (Y n c d) x) :
   Calls Tryz.prog 140 #[.pointer (some ⟨b,0,none⟩),.int .i64 n,.int .i64 c,.int .i64 d,.agg #[.int .i64 x0,.int .i64 x1,.int .i64 x2]] w (GetP p K w0 b O G w s fun t => ∀ k ∈ If.callL (Iv.pf p) (If.stOf p.ns n),LvK p n c d k x t):=by
 have hF2 : p.F.toNat ≤ 1024:=by have:=ho.f2;omega
 have hE2 : p.es.length ≤ 32768:=(If.sup_parts ho.sup).2.1
 have hN2 : p.ns.length ≤ 8192:=(If.sup_parts ho.sup).1
 have HM:=Lib.hid hm
 have HG:=Lib.hid hg
 have HI:=Lib.hid hI
 have HO:=Lib.hid ho
 have HFI:=Lib.hid hf
 have HSN:=Lib.hid hsnd
 have HXX:=Lib.hid hx
 have HMU:=Lib.hid hmu
 have HN1:=Lib.hid hI.nd.1.symm
 have HM1:=Lib.hid hI.ed.1.symm
 have HF2 : Hid (p.F ≤ 1024):=ho.f2
 clear hm hg hI ho hf hsnd hx hmu
 obtain ⟨st,hst⟩ : ∃ st,If.stOf p.ns n = st:=⟨_,rfl⟩
 rw [hst]
 have HST:=Lib.hid hst
 clear hst
 go_enter Tryz.func140,Tryz.ntmps140
 go_upto_region 1 with fail
 refine wp_named (fun W => ∃ b0,w.heap.size = b0 ∧ Blk W b0 [.int .i64 x0,.int .i64 x1,.int .i64 x2] ∧ Below w.heap.size w W) ⟨_,rfl,?_,?_⟩ ?_
 · exact kbn
 · go_grown
 rintro W ⟨b0,e0,B0,hB⟩
 rw [e0]
 have G0 : w.heap.size ≤ b0:=by omega
 clear e0
 have ⟨L0,C0,F0⟩:=B0
 have hkW : Kept [] w W:=(Kept.refl _ _).call hB
 have MW:=Lib.hid (HM.out.kept hkW)
 have SX : Hid (SafeB O W b0):=HM.out.fresh G0 L0
 have HBX:=Lib.hid B0
 have F0w : Hid (Fy K O O G G s s w W):=Fy.kept K O G s hkW
 have Bw:=MW.out.box
 unfold sbox at Bw
 have ⟨LB,CB,FB⟩:=Bw
 have hn1 : n < K.n1:=by rw [HN1.out];exact hn
 have hn1' : (n : Int) < (K.n1 : Int):=by omega
 have q3:=MW.out.start.2 n hn1
 have hsb:=MW.out.start.1.1
 rw [HST.out] at q3
 have hst2 : st < p.ns.length:=by have h8:=If.stOf_le p.ns n;have h9:=HST.out;omega
 have hst1 : st < K.n1:=by rw [HN1.out];exact hst2
 have hst1' : (st : Int) < (K.n1 : Int):=by omega
 obtain ⟨A6,n6,c6,r6,hs6⟩:=MW.out.calls.2 st hst1
 have hrc : K.rc < W.heap.size:=MW.out.calls.1.1
 have HS6:=Lib.hid hs6
 have hn6 : n6 = (If.callL (Iv.pf p) st).length:=by have:=hs6.1.1.1;rw [ofNats_len] at this;exact this.symm
 have hn6b : n6 ≤ 32768:=by
   have h1 : (If.callL (Iv.pf p) st).length ≤ (List.range p.es.length).length:=List.length_filter_le _ _
   rw [List.length_range] at h1
   omega
 have HN6:=Lib.hid hn6
 clear hs6 hn6 C0 F0 HM
 go_quiet (fail)
 refine then_named (fun X => Kept [] W X) (by first | exact (Kept.refl _ _).drewN _ | exact Kept.refl _ _) ?_
 rintro V0 hkV0
 have M0:=Lib.hid (MW.out.kept hkV0)
 have FV0:=Lib.hid (F0w.out.trans (Fy.kept K O G s hkV0))
 have HS6V:=Lib.hid (HS6.out.fx (.same hkV0))
 have SX0' : Hid (SafeB O V0 b0):=SX.out.fx (Fx.same (O:=O) hkV0)
 have HBX0 : Hid (Blk V0 b0 [.int .i64 x0,.int .i64 x1,.int .i64 x2]):=hkV0.blk (by simp) HBX.out
 clear CB FB Bw r6 q3 HS6 MW F0w
 go_wp2_with fail
 go_loopw [35] (fun s35 wr => ∃ (j : Nat) (s1 : St) (O1 : Nat → Prop) (G1 : Gh),j ≤ n6 ∧ s35 = .int .i64 j ∧ Hid (Mem p K w0 b O1 G1 wr s1) ∧ Hid (Fy K O O1 G G1 s s1 V0 wr) ∧ Hid (Ex p s s1) ∧ Hid (∀ i,i < j → ∀ k,(If.callL (Iv.pf p) st)[i]? = some k → LvK p n c d k x s1)) (fun s35 _ => n6 - (intOf s35).toNat)
 case atStart => exact ⟨0,s,O,G,Nat.zero_le _,rfl,M0,Lib.hid (Fy.refl _ _ _ _ _),Ex.refl HG.out,fun i hi => absurd hi (Nat.not_lt_zero _)⟩
 case round =>
 rename World => wr
 clear M0
 obtain ⟨j,s1,O1,G1,hj,rfl,MR,FR,EX,DN⟩:=hrel
 by_cases hlt : j < n6
 case neg =>
   obtain rfl : j = n6:=by omega
   go_wp2_with fail
   go_end0
   refine ⟨s1,O1,G1,rfl,MR.out,FV0.out.trans FR.out,EX.out,fun k hk => ?_⟩
   obtain ⟨i,hi,rfl⟩:=List.getElem_of_mem hk
   exact DN.out i (by rw [HN6.out];exact hi) _ (List.getElem?_eq_getElem hi)
 have BR:=MR.out.box
 unfold sbox at BR
 have ⟨LR,CR,FRb⟩:=BR
 obtain ⟨b6,o6,rfl,hl6,hj6,r6⟩:=sin_at (HS6V.out.fx FR.out.fx) hlt
 obtain ⟨k,hk⟩ : ∃ k,(If.callL (Iv.pf p) st)[j] = k:=⟨_,rfl⟩
 have hkm : k ∈ If.callL (Iv.pf p) st:=by rw [← hk];exact List.getElem_mem hj6
 have HKJ : Hid ((If.callL (Iv.pf p) st)[j]? = some k):=by rw [← hk];exact List.getElem?_eq_getElem hj6
 have hkk : k < p.es.length:=(If.callL_mem.1 hkm).1
 have HK2 : Hid ((ge p.es k).k = 2):=(If.callL_mem.1 hkm).2.1
 have HKB : Hid ((ge p.es k).b = (st : Int)):=(If.callL_mem.1 hkm).2.2
 rw [hk] at r6
 have hj1 : (j : Int) < (n6 : Int):=by omega
 obtain ⟨b2,o2,ca,cb,e2,hl20,hl2,hk2,hca,hcb,hca2,hcb2,r2a,-,-,-⟩:=HI.out.edge HO.out MR.out.low hkk
 have HCA:=Lib.hid hca
 have hkK : k < K.n2:=by rw [HM1.out];exact hkk
 have HFE : Hid ((gn p.ns (ge p.es k).b.toNat).f = (gn p.ns n).f):=by
   have h9:=(HO.out.pf.call (k:=k) hkk HK2.out).1
   have h8 : (Iv.pf p).es = p.es:=rfl
   have h7 : (Iv.pf p).ns = p.ns:=rfl
   rw [h7,h8,HKB.out,Int.toNat_natCast] at h9
   show _ = _
   rw [HKB.out,Int.toNat_natCast]
   exact (If.NdOk.start_iff HO.out.pf.nd hn hst2 h9).1 HST.out
 obtain ⟨A7,n7,c7,hev,hs7⟩:=MR.out.ents k c hkK HK2.out
 have hget:=getl_any K.er K.n2 K.n2 k c K.em K.ec K.ev wr MR.out.entr hkK hc
 rw [hev] at hget
 have HGE:=Lib.hid hget
 have HS7:=Lib.hid hs7
 have hn7 : n7 = (entL p k c).length:=by have:=hs7.1.1.1;rw [ofNats_len] at this;exact this.symm
 have hn7b : n7 ≤ 8192:=by
   have h1 : (entL p k c).length ≤ (List.range (gl p.fl k).length).length:=List.length_filter_le _ _
   rw [List.length_range] at h1
   have h2:=(HO.out.fl k (by rw [HO.out.len];exact hkk)).1
   omega
 have HN7:=Lib.hid hn7
 clear hk hkm hca hcb hev hget hs7 hn7
 go_upto_region 6 with (go_at_call 82;refine HGE.out.mono ?_;rintro e w7 ⟨rfl,hb7⟩)
 have hk7 : Kept [] wr w7:=(Kept.refl _ _).call hb7
 have M7:=Lib.hid (MR.out.kept hk7)
 have F7:=Lib.hid (FR.out.trans (Fy.kept K O1 G1 s1 hk7))
 have HS7V : Hid (SInO O1 w7 A7 n7 c7 (ofNats (entL p k c))):=HS7.out.fx (.same hk7)
 clear CR FRb r6 hl6 r2a hl2 e2 MR FR HS7 HGE
 go_loopw [57] (fun s57 wq => ∃ (i : Nat) (s2 : St) (O2 : Nat → Prop) (G2 : Gh),i ≤ n7 ∧ s57 = .int .i64 i ∧ Hid (Mem p K w0 b O2 G2 wq s2) ∧ Hid (Fy K O O2 G G2 s s2 V0 wq) ∧ Hid (Fy K O1 O2 G1 G2 s1 s2 w7 wq) ∧ Hid (Ex p s1 s2) ∧ Hid (∀ y,y < i → ∀ z,(entL p k c)[y]? = some z → LvQ p n k d x (gx (gl p.fl k) z) s2)) (fun s57 _ => n7 - (intOf s57).toNat)
 case atStart => exact ⟨0,s1,O1,G1,Nat.zero_le _,rfl,M7,F7,Lib.hid (Fy.refl _ _ _ _ _),Ex.refl EX.out.good,fun i hi => absurd hi (Nat.not_lt_zero _)⟩
 case round =>
 rename World => wq
 clear M7 F7
 obtain ⟨i,s2,O2,G2,hi7,rfl,MQ,FQ,FQ7,EX2,DNQ⟩:=hrel
 by_cases hlt7 : i < n7
 case neg =>
   obtain rfl : i = n7:=by omega
   go_wp2_with fail
   refine ⟨⟨j + 1,s2,O2,G2,by omega,by go_num,MQ,FQ,EX.out.trans EX2.out,fun y hy k' hk' => ?_⟩,by simp [intOf];omega⟩
   rcases Nat.lt_or_ge y j with h1 | h1
   · exact (DN.out y h1 k' hk').mono EX2.out.gw
   · obtain rfl : y = j:=by omega
     rw [HKJ.out] at hk'
     injection hk' with hk'
     rw [← hk']
     intro q hq hqo
     obtain ⟨z,hz,rfl⟩:=mem_gx hq
     obtain ⟨y2,hy2,e⟩:=List.getElem_of_mem (mem_entL.2 ⟨hz,hqo⟩)
     exact DNQ.out y2 (by rw [HN7.out];exact hy2) _ (by rw [← e];exact List.getElem?_eq_getElem hy2)
 have BQ:=MQ.out.box
 unfold sbox at BQ
 have ⟨LQ,CQ,FQb⟩:=BQ
 obtain ⟨b7,o7,rfl,hl7,hi7',r7⟩:=sin_at (HS7V.out.fx FQ7.out.fx) hlt7
 obtain ⟨z,hz⟩ : ∃ z,(entL p k c)[i] = z:=⟨_,rfl⟩
 have hzm : z ∈ entL p k c:=by rw [← hz];exact List.getElem_mem hi7'
 have HZI : Hid ((entL p k c)[i]? = some z):=by rw [← hz];exact List.getElem?_eq_getElem hi7'
 have hzl : z < (gl p.fl k).length:=(mem_entL.1 hzm).1
 have HZO : Hid ((gx (gl p.fl k) z).o = (c : Int)):=(mem_entL.1 hzm).2
 rw [hz] at r7
 have hi1 : (i : Int) < (n7 : Int):=by omega
 obtain ⟨b3,o3,Ai,ni,ci,e3,hl30,hl3,hk3,r3,hci,hxps,hni,hni2⟩:=HI.out.flow HO.out MQ.out.low hkk
 have hzn : z < ni:=by have:=hxps.1;omega
 have hzn' : (z : Int) < (ni : Int):=by omega
 obtain ⟨b5,o5,q,i',o,e5,hl50,hl5,hjq,hqm,hqi,hqo,hiF,hoF,r50,r51,r52,r53,r54⟩:=xps_at HO.out MQ.out.low (l:=gl p.fl k) (fun q hq => hq) hxps hzn
 subst e5
 have hqz : gx (gl p.fl k) z = q:=by
   obtain ⟨h1,h2⟩:=List.getElem?_eq_some_iff.1 hjq
   rw [gx_lt h1];exact h2
 rw [hqz] at HZO
 have HQZ:=Lib.hid hqz
 have HXD : Hid ((xd q).1 = ⟨q.k,q.b,q.c⟩):=xd_of HO.out HFI.out hqm
 obtain ⟨qk,hqk⟩ : ∃ v,q.k = v:=⟨_,rfl⟩
 obtain ⟨qb,hqb⟩ : ∃ v,q.b = v:=⟨_,rfl⟩
 obtain ⟨qc,hqc⟩ : ∃ v,q.c = v:=⟨_,rfl⟩
 rw [hqk] at r52
 rw [hqb] at r53
 rw [hqc] at r54
 have HXE : Hid ((xd q).1 = ⟨qk,qb,qc⟩):=by rw [← hqk,← hqb,← hqc];exact HXD
 have HQM:=Lib.hid hqm
 have HQI:=Lib.hid hqi
 clear hz hzm hxps hjq hqz hqm hqo hqi hqk hqb hqc HXD
 go_upto_region 9 with fail
 refine wp_named (fun V => ∃ g,wq.heap.size = g ∧ Blk V g [.int .i64 i',.int .i64 o,.int .i64 qk,.int .i64 qb,.int .i64 qc] ∧ Kept [] wq V) ⟨_,rfl,Blk.new _ _ _ _ rfl,(Kept.refl _ _).alloc _⟩ ?_
 rintro V1 ⟨gq,eg,Bg,hkV1⟩
 rw [eg]
 have ⟨Lg,Cg,Fg⟩:=Bg
 have SQ : Hid (SafeB O2 V1 gq):=MQ.out.fresh (by omega) Lg
 have HBQ:=Lib.hid Bg
 have MV1:=Lib.hid (MQ.out.kept hkV1)
 have FV1:=Lib.hid (FQ.out.trans (Fy.kept K O2 G2 s2 hkV1))
 have FV17:=Lib.hid (FQ7.out.trans (Fy.kept K O2 G2 s2 hkV1))
 have BV1:=MV1.out.box
 unfold sbox at BV1
 have ⟨LV1,CV1,FVb1⟩:=BV1
 have hca1 : ca < K.n1:=by rw [HN1.out];exact hca2
 have hca1' : (ca : Int) < (K.n1 : Int):=by omega
 obtain ⟨A8,n8,c8,hn8,hsn8,hget8⟩:=MV1.out.getl (i:=2) (n:=ca) (a:=i') (.inr rfl) hca1 (by omega)
 have HS8:=Lib.hid hsn8
 have HG8:=Lib.hid hget8
 have hn8b : n8 ≤ 1024:=by rw [hn8];exact Wf.lsLe EX2.out.good.wf HF2.out (.inr rfl)
 have HN8:=Lib.hid hn8
 clear hget8 hsn8 hn8 CQ FQb r7 hl7 r3 e3 hl3 hl5 r50 r51 r52 r53 r54 eg Bg MQ FQ FQ7
 go_region_held3 (fun w' => SX0 V1 w') (exact kp0) (first | (go_at_call 82;refine (HG8.out _ (by (exact kpt0))).mono ?_;rintro e w8 ⟨rfl,hb8⟩;obtain ⟨hc8,hf8,hg8⟩:=bcell hb8;have hz8:=hb8.size;have hk8 : Kept [] V1 w8:=Kept.call (by (exact kpt0)) hb8))
 have M8:=Lib.hid (MV1.out.kept hk8)
 have F8:=Lib.hid (FV1.out.trans (Fy.kept K O2 G2 s2 hk8))
 have F87:=Lib.hid (FV17.out.trans (Fy.kept K O2 G2 s2 hk8))
 have HS8V : Hid (SnapL K O2 G2 s2 w8 A8 n8 (s2.ls 2 ca i')):=(Fy.kept K O2 G2 s2 hk8).sn _ _ _ HS8.out
 have SQ8 : Hid (SafeB O2 w8 gq):=SQ.out.fx (Fx.same (O:=O2) hk8)
 have HBQ8 : Hid (Blk w8 gq [.int .i64 i',.int .i64 o,.int .i64 qk,.int .i64 qb,.int .i64 qc]):=hk8.blk (by simp) HBQ.out
 clear CV1 FVb1 BV1 LV1 Cg Fg hc8 hf8 hg8 MV1 FV1 FV17 HG8 HS8 SQ HBQ
 go_wp2_with fail
 go_loopw [81] (fun s81 wz => ∃ (y : Nat) (s3 : St) (O3 : Nat → Prop) (G3 : Gh),y ≤ n8 ∧ s81 = .int .i64 y ∧ Hid (Mem p K w0 b O3 G3 wz s3) ∧ Hid (Fy K O O3 G G3 s s3 V0 wz) ∧ Hid (Fy K O1 O3 G1 G3 s1 s3 w7 wz) ∧ Hid (Fy K O2 O3 G2 G3 s2 s3 w8 wz) ∧ Hid (Ex p s2 s3) ∧ Hid (∀ z,z < y → ∀ a',(s2.ls 2 ca i')[z]? = some a' → LvA p n k d a' x q s3)) (fun s81 _ => n8 - (intOf s81).toNat)
 case atStart => exact ⟨0,s2,O2,G2,Nat.zero_le _,rfl,M8,F8,F87,Lib.hid (Fy.refl _ _ _ _ _),Ex.refl EX2.out.good,fun i hi => absurd hi (Nat.not_lt_zero _)⟩
 case round =>
 rename World => wz
 clear M8 F8 F87
 obtain ⟨y,s3,O3,G3,hy8,rfl,MZ,FZ,FZ7,FZ8,EX3,DNA⟩:=hrel
 by_cases hlt8 : y < n8
 case neg =>
   obtain rfl : y = n8:=by omega
   go_wp2_with fail
   refine ⟨⟨i + 1,s3,O3,G3,by omega,by go_num,MZ,FZ,FZ7,EX2.out.trans EX3.out,fun y2 hy2 z' hz' => ?_⟩,by simp [intOf];omega⟩
   rcases Nat.lt_or_ge y2 i with h1 | h1
   · exact (DNQ.out y2 h1 z' hz').mono EX3.out.gw
   · obtain rfl : y2 = i:=by omega
     rw [HZI.out] at hz'
     injection hz' with hz'
     rw [← hz',HQZ.out]
     refine LvQ.of EX2.out.good.wf EX3.out.gw (fun a' ha' => ?_)
     rw [HCA.out,HQI.out,Int.toNat_natCast,Int.toNat_natCast] at ha'
     obtain ⟨y3,hy3,rfl⟩:=List.getElem_of_mem ha'
     exact DNA.out y3 (by rw [HN8.out];exact hy3) _ (List.getElem?_eq_getElem hy3)
 have BZ:=MZ.out.box
 unfold sbox at BZ
 have ⟨LZ,CZ,FZb⟩:=BZ
 have ⟨Lqz,Cqz,Fqz⟩:=SQ8.out.blk FZ8.out.fx HBQ8.out
 obtain ⟨b9,o9,rfl,hl9,hy9,r9⟩:=snap_at (FZ8.out.sn _ _ _ HS8V.out) hlt8
 obtain ⟨a',ha'⟩ : ∃ f,(s2.ls 2 ca i')[y] = f:=⟨_,rfl⟩
 have HAI : Hid ((s2.ls 2 ca i')[y]? = some a'):=by rw [← ha'];exact List.getElem?_eq_getElem hy9
 have haF : a' < p.F.toNat:=by
   have h1 : a' ∈ s2.ls 2 ca i':=by rw [← ha'];exact List.getElem_mem hy9
   exact (EX2.out.good.wf.rng _ _ _ ((EX2.out.good.wf.l2 _ _ _).1 h1)).2.1
 rw [ha'] at r9
 have hy1 : (y : Int) < (n8 : Int):=by omega
 obtain ⟨y0,hy0⟩ : ∃ v,(s3.T ca a' i').1.k = v:=⟨_,rfl⟩
 obtain ⟨y1,hy1'⟩ : ∃ v,(s3.T ca a' i').1.b = v:=⟨_,rfl⟩
 obtain ⟨y2,hy2⟩ : ∃ v,(s3.T ca a' i').1.c = v:=⟨_,rfl⟩
 have HEY : Hid ((s3.T ca a' i').1 = ⟨y0,y1,y2⟩):=by show _ = _;rw [← hy0,← hy1',← hy2]
 obtain ⟨u0,hu0⟩ : ∃ v,(comp (s3.T ca a' i') (xd q)).1.k = v:=⟨_,rfl⟩
 obtain ⟨u1,hu1⟩ : ∃ v,(comp (s3.T ca a' i') (xd q)).1.b = v:=⟨_,rfl⟩
 obtain ⟨u2,hu2⟩ : ∃ v,(comp (s3.T ca a' i') (xd q)).1.c = v:=⟨_,rfl⟩
 have HEU : Hid ((comp (s3.T ca a' i') (xd q)).1 = ⟨u0,u1,u2⟩):=by show _ = _;rw [← hu0,← hu1,← hu2]
 obtain ⟨v0,hv0⟩ : ∃ v,(comp (comp (s3.T ca a' i') (xd q)) x).1.k = v:=⟨_,rfl⟩
 obtain ⟨v1,hv1⟩ : ∃ v,(comp (comp (s3.T ca a' i') (xd q)) x).1.b = v:=⟨_,rfl⟩
 obtain ⟨v2,hv2⟩ : ∃ v,(comp (comp (s3.T ca a' i') (xd q)) x).1.c = v:=⟨_,rfl⟩
 have HEV : Hid ((comp (comp (s3.T ca a' i') (xd q)) x).1 = ⟨v0,v1,v2⟩):=by show _ = _;rw [← hv0,← hv1,← hv2]
 have HGX : Hid (∀ w9,Kept [] wz w9 → Calls Tryz.prog 83 #[.agg #[.slice (some ⟨K.tr 0,0,none⟩) K.n1 K.n1],.int .i64 ca,.agg #[.int .i64 (a' : Int),.int .i64 (i' : Int)]] w9 fun e w' => e = .returned (.agg #[.int .i64 y0,.int .i64 y1,.int .i64 y2]) ∧ Below w9.heap.size w9 w'):=fun w9 hk9 => (MZ.out.kept hk9).getx hca1 (by omega) (by omega) HEY.out
 have HC1 : Hid (∀ w9,Calls Tryz.prog 85 #[.agg #[.int .i64 y0,.int .i64 y1,.int .i64 y2],.agg #[.int .i64 qk,.int .i64 qb,.int .i64 qc]] w9 fun e w' => e = .returned (.agg #[.int .i64 u0,.int .i64 u1,.int .i64 u2]) ∧ Below w9.heap.size w9 w'):=fun w9 => compD_any _ _ _ _ _ _ _ _ _ _ _ HEY.out HXE.out HEU.out w9
 have HC2 : Hid (∀ w9,Calls Tryz.prog 85 #[.agg #[.int .i64 u0,.int .i64 u1,.int .i64 u2],.agg #[.int .i64 x0,.int .i64 x1,.int .i64 x2]] w9 fun e w' => e = .returned (.agg #[.int .i64 v0,.int .i64 v1,.int .i64 v2]) ∧ Below w9.heap.size w9 w'):=fun w9 => compD_any _ _ _ _ _ _ _ _ _ _ _ HEU.out HXX.out HEV.out w9
 clear ha' hy0 hy1' hy2 hu0 hu1 hu2 hv0 hv1 hv2
 go_upto_region 12 with fail
 go_cut [18] (fun s9 wx => ∃ g : Nat,s9 = .pointer (some ⟨g,0,none⟩) ∧ Blk wx g [.int .i64 y0,.int .i64 y1,.int .i64 y2] ∧ Kept [] wz wx ∧ wz.heap.size ≤ g)
 case first =>
   go_region_held3 (fun w' => SX0 wz w') (exact kp0) (first | (go_at_call 83;refine (HGX.out _ (by (exact kpt0))).mono ?_;rintro e w2 ⟨rfl,hb2⟩;obtain ⟨hc2,hf2,hg2⟩:=bcell hb2;have hz2:=hb2.size;try simp at hz2))
   all_goals
     go_wp2_with fail
     go_meet
     refine ⟨_,rfl,?_,?_,?_⟩
     · (exact kpb)
     · (exact kpt0)
     · first | (simp;done) | omega | (simp;omega)
 case rest =>
 obtain ⟨gy,rfl,Bgy,hkc,hgy⟩:=hcut
 have ⟨Lgy,Cgy,Fgy⟩:=Bgy
 have hFc:=Fy.kept K O3 G3 s3 hkc
 have ⟨Lqc,Cqc,Fqc⟩:=(SQ8.out.fx FZ8.out.fx).blk hFc.fx ⟨Lqz,Cqz,Fqz⟩
 have ⟨Lxc,Cxc,Fxc⟩:=SX0'.out.blk (FZ.out.trans hFc).fx HBX0.out
 clear Cqz Fqz CZ FZb r9 hl9 HGX
 go_upto_region 13 with fail
 refine wp_region_E 6 (fun w' => SX0 wc w') (by kernel_rfl) (by (exact kp0)) (fun hHeld => ?_)
 refine WE_tk 0 ?_
 refine WE_tk 1 ?_
 refine WE_tk 2 ?_
 refine WE_tk 4 ?_
 refine WE_step 3 rfl (by kernel_rfl) (fun K hK => ?_)
 go_simp
 (first | (go_at_call 85;(with_reducible refine (HC1.out _).mono ?_);rintro e w4 ⟨rfl,hb4⟩) | (go_at_call 85;(with_reducible refine (HC2.out _).mono ?_);rintro e w5 ⟨rfl,hb5⟩))
 (try go_wp2_with fail)
 refine hK.out _ _ ?_ (fun hHeld => ?_)
 · (exact kp0)
 clear hK K
 refine WE_put ?_
 refine WE_step 5 rfl (by kernel_rfl) (fun K hK => ?_)
 go_simp
 (first | (go_at_call 85;(with_reducible refine (HC1.out _).mono ?_);rintro e w4 ⟨rfl,hb4⟩) | (go_at_call 85;(with_reducible refine (HC2.out _).mono ?_);rintro e w5 ⟨rfl,hb5⟩))
 (try go_wp2_with fail)
 refine hK.out _ _ ?_ (fun hHeld => ?_)
 · (exact kp0)
 clear hK K
 refine WE_put ?_
 refine WE_last rfl (by kernel_rfl) (fun K hK => ?_)
 go_simp
 refine hK.out _ _ ?_
 clear hK K
 have hBN : BlkN wc gy 3:=Bgy.n rfl
 go_upto_region 14 with fail
 refine wp_named (fun X => Blk X gy [.int .i64 v0,.int .i64 v1,.int .i64 v2] ∧ Kept [gy] wc X) ⟨by (exact kpb),by (repeat' first | (with_reducible assumption) | (with_reducible exact Kept.refl _ _) | (with_reducible refine Kept.alloc ?_ _) | (with_reducible refine Kept.call ?_ (by assumption)) | (with_reducible refine Kept.set ?_ _ _ _ (Or.inl ?_)) | (with_reducible refine Kept.drew ?_) | (simp;done))⟩ ?_
 rintro V2 ⟨Bv,hkV2⟩
 have hk32 : Kept [] wz V2:=hkc.next hkV2 (fun z hz => .inr (by rw [List.mem_singleton.1 hz];exact hgy))
 have MV2:=Lib.hid (MZ.out.kept hk32)
 have hF32:=Fy.kept K O3 G3 s3 hk32
 have FV2:=Lib.hid (FZ.out.trans hF32)
 have FV27:=Lib.hid (FZ7.out.trans hF32)
 have FV28:=Lib.hid (FZ8.out.trans hF32)
 have SV : Hid (SafeB O3 V2 gy):=MZ.out.fresh hgy Bv.1
 have HBV:=Lib.hid Bv
 have BV2:=MV2.out.box
 unfold sbox at BV2
 have ⟨LV2,CV2,FVb2⟩:=BV2
 obtain ⟨A10,n10,c10,r10,hs10⟩:=MV2.out.rets.2 ca hca1
 have hrr : K.rr < V2.heap.size:=MV2.out.rets.1.1
 have HS10:=Lib.hid hs10
 have hn10 : n10 = (If.retL (Iv.pf p) ca).length:=by have:=hs10.1.1.1;rw [ofNats_len] at this;exact this.symm
 have hn10b : n10 ≤ 32768:=by
   have h1 : (If.retL (Iv.pf p) ca).length ≤ (List.range p.es.length).length:=List.length_filter_le _ _
   rw [List.length_range] at h1
   omega
 have HN10:=Lib.hid hn10
 clear hs10 hn10 Cgy Fgy Cqc Fqc Cxc Fxc HC1 HC2 MZ FZ FZ7 FZ8 Bv
 go_upto_region 15 with fail
 go_loopw [109] (fun s109 wv => ∃ (z : Nat) (s4 : St) (O4 : Nat → Prop) (G4 : Gh),z ≤ n10 ∧ s109 = .int .i64 z ∧ Hid (Mem p K w0 b O4 G4 wv s4) ∧ Hid (Fy K O O4 G G4 s s4 V0 wv) ∧ Hid (Fy K O1 O4 G1 G4 s1 s4 w7 wv) ∧ Hid (Fy K O2 O4 G2 G4 s2 s4 w8 wv) ∧ Hid (Fy K O3 O4 G3 G4 s3 s4 V2 wv) ∧ Hid (Ex p s3 s4) ∧ Hid (∀ z',z' < z → ∀ r,(If.retL (Iv.pf p) ca)[z']? = some r → (ge p.es r).a = (n : Int) → ∀ u ∈ gl p.fl r,u.i = (d : Int) → le (s4.T (ge p.es r).b.toNat a' u.o.toNat) (comp (comp (comp (s3.T ca a' i') (xd q)) x) (xd u)))) (fun s109 _ => n10 - (intOf s109).toNat)
 case atStart => exact ⟨0,s3,O3,G3,Nat.zero_le _,rfl,MV2,FV2,FV27,FV28,Lib.hid (Fy.refl _ _ _ _ _),Ex.refl EX3.out.good,fun i hi => absurd hi (Nat.not_lt_zero _)⟩
 case round =>
 rename World => wv
 clear CV2 FVb2 r10 MV2 FV2 FV27 FV28
 obtain ⟨z,s4,O4,G4,hz10,rfl,MU,FU,FU7,FU8,FU2,EX4,DNR⟩:=hrel
 by_cases hlt10 : z < n10
 case neg =>
   obtain rfl : z = n10:=by omega
   go_wp2_with fail
   refine ⟨⟨y + 1,s4,O4,G4,by omega,by go_num,MU,FU,FU7,FU8,EX3.out.trans EX4.out,fun y2 hy2 a2 ha2 => ?_⟩,by simp [intOf];omega⟩
   rcases Nat.lt_or_ge y2 y with h1 | h1
   · exact (DNA.out y2 h1 a2 ha2).mono EX4.out.gw
   · obtain rfl : y2 = y:=by omega
     rw [HAI.out] at ha2
     injection ha2 with ha2
     rw [← ha2]
     refine ⟨s3.T ca a' i',?_,fun r hr hrn u hu hui => ?_⟩
     · rw [HCA.out,HQI.out,Int.toNat_natCast,Int.toNat_natCast]
       exact (Sn.self s3 ca a' i').mono EX4.out.gw
     · rw [HCA.out,Int.toNat_natCast] at hr
       obtain ⟨y3,hy3,rfl⟩:=List.getElem_of_mem hr
       exact DNR.out y3 (by rw [HN10.out];exact hy3) _ (List.getElem?_eq_getElem hy3) hrn u hu hui
 have BU:=MU.out.box
 unfold sbox at BU
 have ⟨LU,CU,FUb⟩:=BU
 have ⟨Lvu,Cvu,Fvu⟩:=SV.out.blk FU2.out.fx HBV.out
 obtain ⟨b10,o10,rfl,hl10,hi10,r10⟩:=sin_at ((HS10.out).fx FU2.out.fx) hlt10
 obtain ⟨r,hr⟩ : ∃ r,(If.retL (Iv.pf p) ca)[z] = r:=⟨_,rfl⟩
 have hrm : r ∈ If.retL (Iv.pf p) ca:=by rw [← hr];exact List.getElem_mem hi10
 have HRI : Hid ((If.retL (Iv.pf p) ca)[z]? = some r):=by rw [← hr];exact List.getElem?_eq_getElem hi10
 have hrk : r < p.es.length:=(If.retL_mem.1 hrm).1
 have HR3 : Hid ((ge p.es r).k = 3 ∨ (ge p.es r).k = 4):=(If.retL_mem.1 hrm).2.1
 have HRC : Hid ((ge p.es r).c = (ca : Int)):=(If.retL_mem.1 hrm).2.2
 rw [hr] at r10
 have hz1 : (z : Int) < (n10 : Int):=by omega
 obtain ⟨b2,o2,ra,rb,e2,hl20,hl2,hr2,hra,hrb,hra2,hrb2,q2a,-,-,-⟩:=HI.out.edge HO.out MU.out.low hrk
 have HRA:=Lib.hid hra
 clear hr hra hrb hrm
 by_cases hse : ra = n
 case neg =>
   have hse1 : ((ra : Int) == (n : Int)) = false:=by simp;omega
   have HSK : Hid (∀ z',z' < z + 1 → ∀ r,(If.retL (Iv.pf p) ca)[z']? = some r → (ge p.es r).a = (n : Int) → ∀ u ∈ gl p.fl r,u.i = (d : Int) → le (s4.T (ge p.es r).b.toNat a' u.o.toNat) (comp (comp (comp (s3.T ca a' i') (xd q)) x) (xd u))):=fun z' hz' r' hr' hrn => by
     rcases Nat.lt_or_ge z' z with h1 | h1
     · exact DNR.out z' h1 r' hr' hrn
     · obtain rfl : z' = z:=by omega
       rw [HRI.out] at hr'
       injection hr' with hr'
       rw [← hr',HRA.out] at hrn
       exact absurd (by omega) hse
   clear hse
   go_wp2_with fail
   exact ⟨⟨z + 1,s4,O4,G4,by omega,by go_num,MU,FU,FU7,FU8,FU2,EX4,HSK⟩,by simp [intOf];omega⟩
 subst hse
 have HSP : Hid (Calls Tryz.prog 138 #[.pointer (some ⟨b,0,none⟩),.int .i64 r,.int .i64 a',.int .i64 d,.agg #[.int .i64 v0,.int .i64 v1,.int .i64 v2]] wv (GetP p K w0 b O4 G4 wv s4 fun t => ∀ u ∈ gl p.fl r,u.i = d → le (t.T (ge p.es r).b.toNat a' u.o.toNat) (comp (comp (comp (s3.T ca a' i') (xd q)) x) (xd u)))) :=
   spread_any wv r a' d (comp (comp (s3.T ca a' i') (xd q)) x) v0 v1 v2 HEV.out HI.out HO.out HFI.out HMU.out EX4.out.good MU.out hrk haF (fun Y hY u hu hui => by
     have h7:=leave_snd (d:=d) (a':=a') EX3.out.good.snd hkk HK2.out HQM.out HZO.out HSN.out hrk HR3.out (by rw [HCA.out,HRC.out]) HRA.out HFE.out Y hY u hu hui
     rw [HCA.out,HQI.out,Int.toNat_natCast,Int.toNat_natCast] at h7
     exact h7)
 go_wp2_with (go_at_call 138;refine HSP.out.mono ?_;rintro e wy ⟨s5,O5,G5,rfl,M5,F5,E5,D5⟩)
 refine ⟨⟨z + 1,s5,O5,G5,by omega,by go_num,M5,FU.out.trans F5,FU7.out.trans F5,FU8.out.trans F5,FU2.out.trans F5,EX4.out.trans E5,fun z' hz' r' hr' hrn u hu hui => ?_⟩,by simp [intOf];omega⟩
 rcases Nat.lt_or_ge z' z with h1 | h1
 · exact le_trans (E5.gw.le _ _ _) (DNR.out z' h1 r' hr' hrn u hu hui)
 · obtain rfl : z' = z:=by omega
   rw [HRI.out] at hr'
   injection hr' with hr'
   rw [← hr'] at hu ⊢
   exact D5 u hu hui
end Go.Proofs.YtincpmdldpakkaaGreatDoor
