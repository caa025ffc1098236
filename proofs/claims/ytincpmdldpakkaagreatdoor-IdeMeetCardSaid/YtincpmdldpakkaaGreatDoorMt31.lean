/- Texts: Bt Bv. -/
import Derived.Test.YtincpmdldpakkaaGreatDoorMt27
namespace Go.Proofs.YtincpmdldpakkaaGreatDoor
open Go.RowKit Go.Df Go.Df.Iv Go.Df.Sp
attribute [local go_sem ↓] Go.wp_at_zero Go.wp_at_succ
set_option maxRecDepth 100000 in
set_option maxHeartbeats 40000000 in
theorem spread_any {p : Vb} {K : Kn} {w0 : World} {b : Nat} {O : Nat → Prop} {G : Gh} {s : St} (w : World) (k a d : Nat) (x : D) (x0 x1 x2 : Int) (hx : x.1 = ⟨x0,x1,x2⟩) (hI : Inp p K w0) (ho : VOk p) (hf : VFit p) (hmu : mu0 p ≤ 1000000) (hg : Iv.Good p s) (hm : Mem p K w0 b O G w s) (hk : k < p.es.length) (ha : a < p.F.toNat)
   (hsnd : ∀ Y,Clo p Y → ∀ q ∈ gl p.fl k,q.i = d → le (Y (ge p.es k).b.toNat a q.o.toNat) (comp x (xd q))) :
   Calls Tryz.prog 138 #[.pointer (some ⟨b,0,none⟩),.int .i64 k,.int .i64 a,.int .i64 d,.agg #[.int .i64 x0,.int .i64 x1,.int .i64 x2]] w (GetP p K w0 b O G w s fun t => ∀ q ∈ gl p.fl k,q.i = d → le (t.T (ge p.es k).b.toNat a q.o.toNat) (comp x (xd q))):=by
 have HM:=Lib.hid hm
 have HG:=Lib.hid hg
 have HI:=Lib.hid hI
 have HO:=Lib.hid ho
 have HFI:=Lib.hid hf
 have HSN:=Lib.hid hsnd
 have HXX:=Lib.hid hx
 have HMU:=Lib.hid hmu
 have HN1:=Lib.hid hI.nd.1.symm
 have HN2 : Hid (K.n1 ≤ 8192):=by have h1:=(If.sup_parts ho.sup).1;have h2:=hI.nd.1;show _ ≤ _;omega
 have HF2 : Hid (p.F ≤ 1024):=ho.f2
 obtain ⟨b3,o3,Ai,ni,ci,e3,hl30,hl3,hk3,r3,hci,hxps,hni,hni2⟩:=hI.flow ho hm.low hk
 have HPR:=Lib.hid hxps
 clear hm hg hI ho hf hsnd hx hmu hxps
 go_enter Tryz.func138,Tryz.ntmps138
 go_upto_region 1 with fail
 refine wp_named (fun W => ∃ b0,w.heap.size = b0 ∧ Blk W b0 [.int .i64 x0,.int .i64 x1,.int .i64 x2] ∧ Below w.heap.size w W) ⟨_,rfl,?_,?_⟩ ?_
 · exact kbn
 · go_grown
 rintro W ⟨b0,e0,B0,hB⟩
 rw [e0]
 have G0 : w.heap.size ≤ b0:=by omega
 clear e0
 have ⟨L0,C0,F0⟩:=B0
 have hkW : Kept [] w W:=(Kept.refl _ _).call hB
 have M0:=Lib.hid (HM.out.kept hkW)
 have SB : Hid (SafeB O W b0):=HM.out.fresh G0 L0
 have HB0:=Lib.hid B0
 have Bw:=M0.out.box
 unfold sbox at Bw
 have ⟨LB,CB,FB⟩:=Bw
 have r3':=(hkW.cell b3 (o3 + k) hl3 (by simp)).trans r3
 have hl3' : b3 < W.heap.size:=Nat.lt_of_lt_of_le hl3 hkW.size
 clear r3 hl3
 go_upto_region 2 with (go_at_call 84;refine (from_any Ai ni ci d (gl p.fl k) w0 _ HPR.out M0.out.low hni hni2 hci (gx_mono HO.out)).mono ?_;rintro e w1 ⟨A',m,c',rfl,hp1,hb1⟩)
 have HP1:=Lib.hid hp1
 have HML:=Lib.hid hp1.1.symm
 have hk1 : Kept [] W w1:=(Kept.refl _ _).call hb1
 have M1:=Lib.hid (M0.out.kept hk1)
 have F1 : Hid (Fy K O O G G s s W w1):=Fy.kept K O G s hk1
 have F0w : Hid (Fy K O O G G s s w W):=Fy.kept K O G s hkW
 have hm8 : m ≤ 8192:=by
   have h3 : (fromsX (gl p.fl k) d).length ≤ (gl p.fl k).length:=List.length_filter_le _ _
   have h2:=HPR.out.1
   have h4:=HML.out
   omega
 clear hp1 r3' e3 CB FB Bw LB C0 F0 M0 HM
 go_loopw [23] (fun s23 wr => ∃ (j : Nat) (s1 : St) (O1 : Nat → Prop) (G1 : Gh),j ≤ m ∧ s23 = .int .i64 j ∧ Hid (Mem p K w0 b O1 G1 wr s1) ∧ Hid (Fy K O O1 G G1 s s1 W wr) ∧ Hid (Ex p s s1) ∧ Hid (∀ i,i < j → ∀ q,(fromsX (gl p.fl k) d)[i]? = some q → le (s1.T (ge p.es k).b.toNat a q.o.toNat) (comp x (xd q)))) (fun s23 _ => m - (intOf s23).toNat)
 case atStart => exact ⟨0,s,O,G,Nat.zero_le _,rfl,M1,F1,Ex.refl HG.out,fun i hi => absurd hi (Nat.not_lt_zero _)⟩
 case round =>
 clear M1 F1
 obtain ⟨j,s1,O1,G1,hj,rfl,MR,FR,EX,DN⟩:=hrel
 by_cases hlt : j < m
 case neg =>
   obtain rfl : j = m:=by omega
   go_wp2_with fail
   go_end0
   refine ⟨s1,O1,G1,rfl,MR.out,F0w.out.trans FR.out,EX.out,fun q hq hqi => ?_⟩
   obtain ⟨i,hi,rfl⟩:=List.getElem_of_mem (mem_fromsX.2 ⟨hq,hqi⟩)
   exact DN.out i (by rw [HML.out];exact hi) _ (List.getElem?_eq_getElem hi)
 obtain ⟨b5,o5,q,i',o,rfl,hl50,hl5,hjq,hqm,hqi,hqo,hiF,hoF,r50,r51,r52,r53,r54⟩:=xps_at HO.out MR.out.low (l:=fromsX (gl p.fl k) d) (fun q hq => (mem_fromsX.1 hq).1) HP1.out hlt
 have hj1 : (j : Int) < (m : Int):=by omega
 have HXD : Hid ((xd q).1 = ⟨q.k,q.b,q.c⟩):=xd_of HO.out HFI.out hqm
 have hqd : q.i = d:=by
   obtain ⟨h1,h2⟩:=List.getElem?_eq_some_iff.1 hjq
   rw [← h2]
   exact (mem_fromsX.1 (List.getElem_mem h1)).2
 obtain ⟨qk,hqk⟩ : ∃ v,q.k = v:=⟨_,rfl⟩
 obtain ⟨qb,hqb⟩ : ∃ v,q.b = v:=⟨_,rfl⟩
 obtain ⟨qc,hqc⟩ : ∃ v,q.c = v:=⟨_,rfl⟩
 rw [hqk] at r52
 rw [hqb] at r53
 rw [hqc] at r54
 have HXE : Hid ((xd q).1 = ⟨qk,qb,qc⟩):=by rw [← hqk,← hqb,← hqc];exact HXD
 have HJQ:=Lib.hid hjq
 have HQM:=Lib.hid hqm
 have HQO:=Lib.hid hqo
 have HQD:=Lib.hid hqd
 clear hqk hqb hqc hjq hqm hqo hqi hqd HXD
 go_upto_region 4 with fail
 refine wp_named (fun V => ∃ g,wr.heap.size = g ∧ Blk V g [.int .i64 i',.int .i64 o,.int .i64 qk,.int .i64 qb,.int .i64 qc] ∧ Kept [] wr V) ⟨_,rfl,Blk.new _ _ _ _ rfl,(Kept.refl _ _).alloc _⟩ ?_
 rintro V ⟨g,eg,Bg,hkV⟩
 rw [eg]
 have ⟨Lg,Cg,Fg⟩:=Bg
 have MV:=Lib.hid (MR.out.kept hkV)
 have FV:=Lib.hid (FR.out.trans (Fy.kept K O1 G1 s1 hkV))
 have BV:=MV.out.box
 unfold sbox at BV
 have ⟨LV,CV,FVb⟩:=BV
 have ⟨Lx,Cx,Fx'⟩:=SB.out.blk FV.out.fx HB0.out
 obtain ⟨b2,o2,ea,eb,e2,hl20,hl2,hk2,hea,heb,hea2,heb2,r2a,r2b,-,-⟩:=HI.out.edge HO.out MV.out.low hk
 have HEB:=Lib.hid heb
 obtain ⟨z0,hz0⟩ : ∃ v,(comp x (xd q)).1.k = v:=⟨_,rfl⟩
 obtain ⟨z1,hz1⟩ : ∃ v,(comp x (xd q)).1.b = v:=⟨_,rfl⟩
 obtain ⟨z2,hz2⟩ : ∃ v,(comp x (xd q)).1.c = v:=⟨_,rfl⟩
 have eZ : (comp x (xd q)).1 = ⟨z0,z1,z2⟩:=by rw [← hz0,← hz1,← hz2]
 have HCO : Hid (∀ w9,Calls Tryz.prog 85 #[.agg #[.int .i64 x0,.int .i64 x1,.int .i64 x2],.agg #[.int .i64 qk,.int .i64 qb,.int .i64 qc]] w9 fun e w' => e = .returned (.agg #[.int .i64 z0,.int .i64 z1,.int .i64 z2]) ∧ Below w9.heap.size w9 w'):=fun w9 => compD_any _ _ _ _ _ _ _ _ _ _ _ HXX.out HXE.out eZ w9
 have HIN : Hid (∀ w9,Kept [] V w9 → Calls Tryz.prog 76 #[.pointer (some ⟨b,0,none⟩),.int .i64 eb,.int .i64 a,.int .i64 o,.agg #[.int .i64 z0,.int .i64 z1,.int .i64 z2]] w9 (GetP p K w0 b O1 G1 V s1 fun t => le (t.T (ge p.es k).b.toNat a q.o.toNat) (comp x (xd q)))):=fun w9 hk9 =>
   (include_any w9 eb a o (comp x (xd q)) z0 z1 z2 eZ (MV.out.kept hk9) EX.out.good.wf HN1.out HN2.out HF2.out HMU.out heb2 ha hoF).mono (fun e w' h9 => by
     have h8:=(h9.ex EX.out.good heb2 ha hoF (fun Y hY => by have h7:=HSN.out Y hY q HQM.out HQD.out;rw [HEB.out,HQO.out] at h7;exact h7)).from hk9
     rw [HEB.out,HQO.out]
     exact h8)
 clear hz0 hz1 hz2 eZ r50 r51 r52 r53 r54 eg r2a hea heb
 refine wp_region_E 18 (fun w' => SX0 V w') (by kernel_rfl) (by (exact kp0)) (fun hHeld => ?_)
 refine WE_tk 0 ?_
 refine WE_tk 1 ?_
 refine WE_tk 2 ?_
 refine WE_tk 3 ?_
 refine WE_tk 4 ?_
 refine WE_tk 5 ?_
 refine WE_tk 6 ?_
 refine WE_tk 7 ?_
 refine WE_tk 8 ?_
 refine WE_tk 9 ?_
 refine WE_tk 10 ?_
 refine WE_tk 11 ?_
 refine WE_tk 12 ?_
 refine WE_tk 13 ?_
 refine WE_tk 14 ?_
 refine WE_tk 15 ?_
 refine WE_tk 16 ?_
 refine WE_step 17 rfl (by kernel_rfl) (fun K hK => ?_)
 go_simp
 (first | (go_at_call 85;refine (HCO.out _).mono ?_;rintro e w8 ⟨rfl,hb8⟩) | (go_at_call 76;refine (HIN.out _ (by (exact kpt0))).mono ?_;rintro e w9 ⟨s9,O9,G9,rfl,M9,F9,E9,D9⟩))
 (try go_wp2_with fail)
 refine hK.out _ _ ?_ (fun hHeld => ?_)
 · (exact kp0)
 clear hK K
 refine WE_put ?_
 refine WE_last rfl (by kernel_rfl) (fun K hK => ?_)
 go_simp
 (first | (go_at_call 85;refine (HCO.out _).mono ?_;rintro e w8 ⟨rfl,hb8⟩) | (go_at_call 76;refine (HIN.out _ (by (exact kpt0))).mono ?_;rintro e w9 ⟨s9,O9,G9,rfl,M9,F9,E9,D9⟩))
 (try go_wp2_with fail)
 refine hK.out _ _ ?_
 clear hK K
 go_wp2_with fail
 refine ⟨⟨j + 1,s9,O9,G9,by omega,by go_num,M9,FV.out.trans F9,EX.out.trans E9,fun i hi q' hq' => ?_⟩,by simp [intOf];omega⟩
 rcases Nat.lt_or_ge i j with h1 | h1
 · exact le_trans (E9.gw.le _ _ _) (DN.out i h1 q' hq')
 · obtain rfl : i = j:=by omega
   rw [HJQ.out] at hq'
   injection hq' with hq'
   rw [← hq']
   exact D9
theorem Mem.getx {p : Vb} {K : Kn} {w0 : World} {b : Nat} {O : Nat → Prop} {G : Gh} {w : World} {s : St} (h : Mem p K w0 b O G w s) {n a d : Nat} (hn : n < K.n1) (ha : a ≤ 1000000) (hd : d ≤ 1000000) {y0 y1 y2 : Int} (hy : (s.T n a d).1 = ⟨y0,y1,y2⟩) :
   Calls Tryz.prog 83 #[.agg #[.slice (some ⟨K.tr 0,0,none⟩) K.n1 K.n1],.int .i64 n,.agg #[.int .i64 (a : Int),.int .i64 (d : Int)]] w fun e w' => e = .returned (.agg #[.int .i64 y0,.int .i64 y1,.int .i64 y2]) ∧ Below w.heap.size w w' :=
 getx_any (K.tr 0) K.n1 K.n1 n a d (G.m 0) (G.c 0) G.jv w h.tj hn ha hd y0 y1 y2 (by
   have h1:=h.hj n a d hn
   unfold xv at h1
   rw [hy] at h1
   exact h1)
theorem Mem.getl {p : Vb} {K : Kn} {w0 : World} {b : Nat} {O : Nat → Prop} {G : Gh} {w : World} {s : St} (h : Mem p K w0 b O G w s) {i n a : Nat} (hi : i = 1 ∨ i = 2) (hn : n < K.n1) (ha : a ≤ 1000000) : ∃ A m c,m = (s.ls i n a).length ∧ SnapL K O G s w A m (s.ls i n a) ∧
   ∀ w9,Kept [] w w9 → Calls Tryz.prog 82 #[.agg #[.slice (some ⟨K.tr i,0,none⟩) K.n1 K.n1],.int .i64 n,.int .i64 (a : Nat)] w9 fun e w' => e = .returned (.slice A m c) ∧ Below w9.heap.size w9 w':=by
 obtain ⟨A,m,c,h1,h2,h3⟩:=h.snap (a:=a) hi hn
 refine ⟨A,m,c,h2,h3,fun w9 hk9 => ?_⟩
 have h9:=getl_any (K.tr i) K.n1 K.n1 n a (G.m i) (G.c i) (G.wv i) w9 ((h.kept hk9).tw i hi) hn ha
 rw [h1] at h9
 exact h9
theorem snap_at {K : Kn} {O : Nat → Prop} {G : Gh} {s : St} {w : World} {A : Option Addr} {n : Nat} {l : List Nat} (h : SnapL K O G s w A n l) {i : Nat} (hi : i < n) : ∃ b6 o6,A = some ⟨b6,o6,none⟩ ∧ b6 < w.heap.size ∧ ∃ h' : i < l.length,w.cell? ⟨b6,o6 + i,none⟩ = some (.int .i64 (l[i] : Nat)):=by
 obtain ⟨b6,o6,e,hl,hc⟩:=h.1.2 (by omega)
 have hi' : i < l.length:=by have:=h.1.1;rw [ofNats_len] at this;omega
 have h1:=hc i hi
 rw [gi_ofNats hi'] at h1
 exact ⟨b6,o6,e,hl,hi',h1⟩
theorem Wf.lsLe {p : Vb} {s : St} (hw : Wf p s) (hF : p.F ≤ 1024) {i n a : Nat} (hi : i = 1 ∨ i = 2) : (s.ls i n a).length ≤ 1024:=by
 have h1:=nodup_le (hw.ln i n a hi) (N:=p.F.toNat) (fun x hx => by
   rcases hi with rfl | rfl
   · exact (hw.rng _ _ _ ((hw.l1 _ _ _).1 hx)).2.2
   · exact (hw.rng _ _ _ ((hw.l2 _ _ _).1 hx)).2.1)
 omega
set_option maxRecDepth 100000 in
set_option maxHeartbeats 100000000 in
theorem enter_any {p : Vb} {K : Kn} {w0 : World} {b : Nat} {O : Nat → Prop} {G : Gh} {s : St} (w : World) (n k a d : Nat) (x : D) (x0 x1 x2 : Int) (hx : x.1 = ⟨x0,x1,x2⟩) (hI : Inp p K w0) (hgv : Gv w0) (ho : VOk p) (hf : VFit p) (hmu : mu0 p ≤ 1000000) (hg : Iv.Good p s) (hm : Mem p K w0 b O G w s) (hk : k < p.es.length) (hkind : (ge p.es k).k = 2) (hkn : (ge p.es k).a = (n : Int)) (ha : a < p.F.toNat) (hxt : x ≠ top)
   (hsnd : ∀ Y,Clo p Y → le (Y n a d) x) :
   Calls Tryz.prog 139 #[.pointer (some ⟨b,0,none⟩),.int .i64 k,.int .i64 a,.int .i64 d,.agg #[.int .i64 x0,.int .i64 x1,.int .i64 x2]] w (GetP p K w0 b O G w s fun t => ∀ q ∈ gl p.fl k,q.i = d → DnQ p k a x q t):=by
 have hF2 : p.F.toNat ≤ 1024:=by have:=ho.f2;omega
 have hE2 : p.es.length ≤ 32768:=(If.sup_parts ho.sup).2.1
 have hN2 : p.ns.length ≤ 8192:=(If.sup_parts ho.sup).1
 have HM:=Lib.hid hm
 have HG:=Lib.hid hg
 have HI:=Lib.hid hI
 have HGV:=Lib.hid hgv
 have HO:=Lib.hid ho
 have HFI:=Lib.hid hf
 have HSN:=Lib.hid hsnd
 have HXX:=Lib.hid hx
 have HMU:=Lib.hid hmu
 have HKD:=Lib.hid hkind
 have HKN:=Lib.hid hkn
 have HXT:=Lib.hid hxt
 have HN1:=Lib.hid hI.nd.1.symm
 have HN2 : Hid (K.n1 ≤ 8192):=by have h1:=(If.sup_parts ho.sup).1;have h2:=hI.nd.1;show _ ≤ _;omega
 have HF2 : Hid (p.F ≤ 1024):=ho.f2
 clear hm hg hI hgv ho hf hsnd hx hmu hkind hkn hxt
 go_enter Tryz.func139,Tryz.ntmps139
 go_upto_region 1 with fail
 refine wp_named (fun W => ∃ b0,w.heap.size = b0 ∧ Blk W b0 [.int .i64 x0,.int .i64 x1,.int .i64 x2] ∧ Below w.heap.size w W) ⟨_,rfl,?_,?_⟩ ?_
 · exact kbn
 · go_grown
 rintro W ⟨b0,e0,B0,hB⟩
 rw [e0]
 have G0 : w.heap.size ≤ b0:=by omega
 clear e0
 have ⟨L0,C0,F0⟩:=B0
 have hkW : Kept [] w W:=(Kept.refl _ _).call hB
 have MW:=Lib.hid (HM.out.kept hkW)
 have SX : Hid (SafeB O W b0):=HM.out.fresh G0 L0
 have HBX:=Lib.hid B0
 have Bw:=MW.out.box
 unfold sbox at Bw
 have ⟨LB,CB,FB⟩:=Bw
 obtain ⟨b2,o2,ea,eb,e2,hl20,hl2,hk2,hea,heb,hea2,heb2,r2a,r2b,r2c,r2d⟩:=HI.out.edge HO.out MW.out.low hk
 have hean : ea = n:=by have h9:=HKN.out;rw [hea] at h9;omega
 subst hean
 have HEA:=Lib.hid hea
 have HEB:=Lib.hid heb
 obtain ⟨ek,hek⟩ : ∃ x,(ge p.es k).k = x:=⟨_,rfl⟩
 obtain ⟨ec,hec⟩ : ∃ x,(ge p.es k).c = x:=⟨_,rfl⟩
 rw [hek] at r2c
 rw [hec] at r2d
 clear hea heb hek hec C0 F0
 go_upto_region 2 with fail
 refine wp_named (fun V => ∃ g0,W.heap.size = g0 ∧ Blk V g0 [.int .i64 ea,.int .i64 eb,.int .i64 ek,.int .i64 ec] ∧ Kept [] W V) ⟨_,rfl,Blk.new _ _ _ _ rfl,(Kept.refl _ _).alloc _⟩ ?_
 rintro V0 ⟨g0,eg0,Bg0,hkV0⟩
 rw [eg0]
 have SE : Hid (SafeB O V0 g0):=HM.out.fresh (by have:=hkW.size;omega) Bg0.1
 have HBE:=Lib.hid Bg0
 have M0:=Lib.hid (MW.out.kept hkV0)
 have F0w : Hid (Fy K O O G G s s w V0):=(Fy.kept K O G s hkW).trans (Fy.kept K O G s hkV0)
 have SX0' : Hid (SafeB O V0 b0):=SX.out.fx (Fx.same (O:=O) hkV0)
 have HBX0 : Hid (Blk V0 b0 [.int .i64 x0,.int .i64 x1,.int .i64 x2]):=hkV0.blk (by simp) HBX.out
 have B0':=M0.out.box
 unfold sbox at B0'
 have ⟨LB0,CB0,FB0⟩:=B0'
 obtain ⟨b3,o3,Ai,ni,ci,e3,hl30,hl3,hk3,r3,hci,hxps,hni,hni2⟩:=HI.out.flow HO.out M0.out.low hk
 have HPR:=Lib.hid hxps
 clear CB FB Bw LB r2a r2b r2c r2d hxps eg0 Bg0 hl2 hk2 e2 HM MW
 go_upto_region 3 with (go_at_call 84;refine (from_any Ai ni ci d (gl p.fl k) w0 _ HPR.out M0.out.low hni hni2 hci (gx_mono HO.out)).mono ?_;rintro e w1 ⟨A',m,c',rfl,hp1,hb1⟩)
 have HP1:=Lib.hid hp1
 have HML:=Lib.hid hp1.1.symm
 have hk1 : Kept [] V0 w1:=(Kept.refl _ _).call hb1
 have M1:=Lib.hid (M0.out.kept hk1)
 have F1 : Hid (Fy K O O G G s s V0 w1):=Fy.kept K O G s hk1
 have hm8 : m ≤ 8192:=by
   have h3 : (fromsX (gl p.fl k) d).length ≤ (gl p.fl k).length:=List.length_filter_le _ _
   have h2:=HPR.out.1
   have h4:=HML.out
   omega
 clear hp1 r3 e3 hl3 hk3 CB0 FB0 B0' LB0 HPR M0
 go_loopw [41] (fun s41 wr => ∃ (j : Nat) (s1 : St) (O1 : Nat → Prop) (G1 : Gh),j ≤ m ∧ s41 = .int .i64 j ∧ Hid (Mem p K w0 b O1 G1 wr s1) ∧ Hid (Fy K O O1 G G1 s s1 V0 wr) ∧ Hid (Ex p s s1) ∧ Hid (∀ i,i < j → ∀ q,(fromsX (gl p.fl k) d)[i]? = some q → DnQ p k a x q s1)) (fun s41 _ => m - (intOf s41).toNat)
 case atStart => exact ⟨0,s,O,G,Nat.zero_le _,rfl,M1,F1,Ex.refl HG.out,fun i hi => absurd hi (Nat.not_lt_zero _)⟩
 case round =>
 clear M1 F1
 obtain ⟨j,s1,O1,G1,hj,rfl,MR,FR,EX,DN⟩:=hrel
 by_cases hlt : j < m
 case neg =>
   obtain rfl : j = m:=by omega
   go_wp2_with fail
   go_end0
   refine ⟨s1,O1,G1,rfl,MR.out,F0w.out.trans FR.out,EX.out,fun q hq hqi => ?_⟩
   obtain ⟨i,hi,rfl⟩:=List.getElem_of_mem (mem_fromsX.2 ⟨hq,hqi⟩)
   exact DN.out i (by rw [HML.out];exact hi) _ (List.getElem?_eq_getElem hi)
 obtain ⟨b5,o5,q,i',o,rfl,hl50,hl5,hjq,hqm,hqi,hqo,hiF,hoF,r50,r51,r52,r53,r54⟩:=xps_at HO.out MR.out.low (l:=fromsX (gl p.fl k) d) (fun q hq => (mem_fromsX.1 hq).1) HP1.out hlt
 have hj1 : (j : Int) < (m : Int):=by omega
 have HXD : Hid ((xd q).1 = ⟨q.k,q.b,q.c⟩):=xd_of HO.out HFI.out hqm
 have hqd : q.i = d:=by
   obtain ⟨h1,h2⟩:=List.getElem?_eq_some_iff.1 hjq
   rw [← h2]
   exact (mem_fromsX.1 (List.getElem_mem h1)).2
 obtain ⟨qk,hqk⟩ : ∃ v,q.k = v:=⟨_,rfl⟩
 obtain ⟨qb,hqb⟩ : ∃ v,q.b = v:=⟨_,rfl⟩
 obtain ⟨qc,hqc⟩ : ∃ v,q.c = v:=⟨_,rfl⟩
 rw [hqk] at r52
 rw [hqb] at r53
 rw [hqc] at r54
 have HXE : Hid ((xd q).1 = ⟨qk,qb,qc⟩):=by rw [← hqk,← hqb,← hqc];exact HXD
 have HJQ:=Lib.hid hjq
 have HQM:=Lib.hid hqm
 have HQO:=Lib.hid hqo
 have HQD:=Lib.hid hqd
 have HTQ : Hid (xd q = top ↔ qk = 0):=by show _ ↔ _;rw [← kind_top,HXE.out]
 clear hqk hqb hqc hjq hqm hqo hqi hqd HXD
 go_upto_region 5 with fail
 refine wp_named (fun V => ∃ g,wr.heap.size = g ∧ Blk V g [.int .i64 i',.int .i64 o,.int .i64 qk,.int .i64 qb,.int .i64 qc] ∧ Kept [] wr V) ⟨_,rfl,Blk.new _ _ _ _ rfl,(Kept.refl _ _).alloc _⟩ ?_
 rintro V1 ⟨g,eg,Bg,hkV1⟩
 rw [eg]
 have ⟨Lg,Cg,Fg⟩:=Bg
 have SQ : Hid (SafeB O1 V1 g):=MR.out.fresh (by omega) Lg
 have HBQ:=Lib.hid Bg
 have MV1:=Lib.hid (MR.out.kept hkV1)
 have FV1:=Lib.hid (FR.out.trans (Fy.kept K O1 G1 s1 hkV1))
 have ⟨Le1,Ce1,Fe1⟩:=SE.out.blk FV1.out.fx HBE.out
 clear r50 r51 r52 r53 r54 eg MR FR
 by_cases hq0 : qk = 0
 · have HSK : Hid (∀ i, i < j + 1 → ∀ q, (fromsX (gl p.fl k) d)[i]? = some q → DnQ p k a x q s1) := fun i hi q' hq' => by
     rcases Nat.lt_or_ge i j with h1 | h1
     · exact DN.out i h1 q' hq'
     · obtain rfl : i = j:=by omega
       rw [HJQ.out] at hq'
       injection hq' with hq'
       rw [← hq']
       exact fun h9 => absurd (HTQ.out.2 hq0) h9
   subst hq0
   go_wp2_with fail
   exact ⟨⟨j + 1,s1,O1,G1,by omega,by go_num,MV1,FV1,EX,HSK⟩,by simp [intOf];omega⟩
 have hqt : (qk == 0) = false:=by simpa using hq0
 have HQT : Hid (xd q ≠ top):=fun h => hq0 (HTQ.out.1 h)
 clear hq0
 have gv:=HGV.out.later MV1.out.low
 have gv0:=gv.c0
 have gv1:=gv.c1
 have gv2:=gv.c2
 have gvl:=gv.lt
 have HINC : Hid (Calls Tryz.prog 76 #[.pointer (some ⟨b,0,none⟩),.int .i64 eb,.int .i64 o,.int .i64 o,.agg #[.int .i64 2,.int .i64 0,.int .i64 0]] V1 (GetP p K w0 b O1 G1 V1 s1 fun t => le (t.T eb o o) shift)) :=
   (include_any V1 eb o o shift 2 0 0 rfl MV1.out EX.out.good.wf HN1.out HN2.out HF2.out HMU.out heb2 hoF hoF).mono (fun e w' h9 => h9.ex EX.out.good heb2 hoF hoF (fun Y hY => by
     have h7:=enter_shift hk HKD.out HEA.out HQM.out HQD.out HQT.out HXT.out HSN.out Y hY
     rw [HEB.out,HQO.out] at h7
     exact h7))
 clear gv
 go_upto_region 8 with (go_at_call 76;refine HINC.out.mono ?_;rintro e w2 ⟨s2,O2,G2,rfl,M2',F2',E2,D2⟩)
 have M2:=Lib.hid M2'
 have F2:=Lib.hid (FV1.out.trans F2')
 have EX2:=Lib.hid (EX.out.trans E2)
 have HE12:=Lib.hid E2
 have HD2:=Lib.hid D2
 have SQ2 : Hid (SafeB O2 w2 g):=SQ.out.fx F2'.fx
 have BQ2:=SQ.out.blk F2'.fx HBQ.out
 have ⟨Lg2,Cg2,Fg2⟩:=BQ2
 have ⟨Lx2,Cx2,Fx2⟩:=SX0'.out.blk F2.out.fx HBX0.out
 obtain ⟨z0,hz0⟩ : ∃ v,(comp x (xd q)).1.k = v:=⟨_,rfl⟩
 obtain ⟨z1,hz1⟩ : ∃ v,(comp x (xd q)).1.b = v:=⟨_,rfl⟩
 obtain ⟨z2,hz2⟩ : ∃ v,(comp x (xd q)).1.c = v:=⟨_,rfl⟩
 have eZ : (comp x (xd q)).1 = ⟨z0,z1,z2⟩:=by rw [← hz0,← hz1,← hz2]
 have HEZ:=Lib.hid eZ
 have HCO : Hid (∀ w9,Calls Tryz.prog 85 #[.agg #[.int .i64 x0,.int .i64 x1,.int .i64 x2],.agg #[.int .i64 qk,.int .i64 qb,.int .i64 qc]] w9 fun e w' => e = .returned (.agg #[.int .i64 z0,.int .i64 z1,.int .i64 z2]) ∧ Below w9.heap.size w9 w'):=fun w9 => compD_any _ _ _ _ _ _ _ _ _ _ _ HXX.out HXE.out eZ w9
 clear hz0 hz1 hz2 eZ Cg Fg Ce1 Fe1 gv0 gv1 gv2 gvl M2' F2' E2 D2 HINC
 go_upto_region 9 with (go_at_call 85;refine (HCO.out _).mono ?_;rintro e w3 ⟨rfl,hb3⟩)
 refine wp_named (fun V => ∃ g,w3.heap.size = g ∧ Blk V g [.int .i64 z0,.int .i64 z1,.int .i64 z2] ∧ Kept [] w3 V) ⟨_,rfl,Blk.new _ _ _ _ rfl,(Kept.refl _ _).alloc _⟩ ?_
 rintro V2 ⟨gz,egz,Bgz,hkV2⟩
 rw [egz]
 have hk23 : Kept [] w2 V2:=keptTrans ((Kept.refl _ _).call hb3) hkV2
 have MV2:=Lib.hid (M2.out.kept hk23)
 have FV2:=Lib.hid (F2.out.trans (Fy.kept K O2 G2 s2 hk23))
 have SZ : Hid (SafeB O2 V2 gz):=M2.out.fresh (by have:=hb3.size;omega) Bgz.1
 have HBZ:=Lib.hid Bgz
 have BV2:=MV2.out.box
 unfold sbox at BV2
 have ⟨LV2,CV2,FVb2⟩:=BV2
 have ⟨Le2,Ce2,Fe2⟩:=SE.out.blk FV2.out.fx HBE.out
 have hea1 : ea < K.n1:=by rw [HN1.out];exact hea2
 have hea1' : (ea : Int) < (K.n1 : Int):=by omega
 obtain ⟨A6,n6,c6,r6,hs6⟩:=MV2.out.rets.2 ea hea1
 have hrr : K.rr < V2.heap.size:=MV2.out.rets.1.1
 have HS6:=Lib.hid hs6
 have hn6 : n6 = (If.retL (Iv.pf p) ea).length:=by have:=hs6.1.1.1;rw [ofNats_len] at this;exact this.symm
 have hn6b : n6 ≤ 32768:=by
   have h1 : (If.retL (Iv.pf p) ea).length ≤ (List.range p.es.length).length:=List.length_filter_le _ _
   rw [List.length_range] at h1
   omega
 have HN6:=Lib.hid hn6
 clear Cg2 Fg2 Cx2 Fx2 hs6 hn6 M2 F2 BQ2 egz Bgz HCO
 go_upto_region 10 with fail
 go_quiet (fail)
 refine then_named (fun X => Kept [] V2 X) (by first | exact (Kept.refl _ _).drewN _ | exact Kept.refl _ _) ?_
 rintro V5 hkV5
 have MV5:=Lib.hid (MV2.out.kept hkV5)
 have FV5:=Lib.hid (FV2.out.trans (Fy.kept K O2 G2 s2 hkV5))
 have HS6V:=Lib.hid (HS6.out.fx (.same hkV5))
 have SZ5 : Hid (SafeB O2 V5 gz):=SZ.out.fx (Fx.same (O:=O2) hkV5)
 have HBZ5 : Hid (Blk V5 gz [.int .i64 z0,.int .i64 z1,.int .i64 z2]):=hkV5.blk (by simp) HBZ.out
 clear CV2 FVb2 Ce2 Fe2 r6 HS6 MV2 FV2
 go_wp2_with fail
 go_loopw [71] (fun s71 wq => ∃ (i : Nat) (s3 : St) (O3 : Nat → Prop) (G3 : Gh),i ≤ n6 ∧ s71 = .int .i64 i ∧ Hid (Mem p K w0 b O3 G3 wq s3) ∧ Hid (Fy K O O3 G G3 s s3 V0 wq) ∧ Hid (Fy K O2 O3 G2 G3 s2 s3 V5 wq) ∧ Hid (Ex p s2 s3) ∧ Hid (∀ y,y < i → ∀ r,(If.retL (Iv.pf p) ea)[y]? = some r → DnR p k r a x q s3)) (fun s71 _ => n6 - (intOf s71).toNat)
 case atStart => exact ⟨0,s2,O2,G2,Nat.zero_le _,rfl,MV5,FV5,Lib.hid (Fy.refl _ _ _ _ _),Ex.refl EX2.out.good,fun i hi => absurd hi (Nat.not_lt_zero _)⟩
 case round =>
 rename World => wq
 clear MV5 FV5
 obtain ⟨i,s3,O3,G3,hi6,rfl,MQ,FQ,FQ5,EX3,DNR⟩:=hrel
 by_cases hlt6 : i < n6
 case neg =>
   obtain rfl : i = n6:=by omega
   go_wp2_with fail
   refine ⟨⟨j + 1,s3,O3,G3,by omega,by go_num,MQ,FQ,EX2.out.trans EX3.out,fun y hy q' hq' => ?_⟩,by simp [intOf];omega⟩
   rcases Nat.lt_or_ge y j with h1 | h1
   · exact (DN.out y h1 q' hq').mono (HE12.out.gw.trans EX3.out.gw)
   · obtain rfl : y = j:=by omega
     rw [HJQ.out] at hq'
     injection hq' with hq'
     rw [← hq']
     refine fun _ => ⟨?_,fun r hr => ?_⟩
     · rw [HEB.out,HQO.out,Int.toNat_natCast,Int.toNat_natCast]
       exact le_trans (EX3.out.gw.le _ _ _) HD2.out
     · rw [HEA.out,Int.toNat_natCast] at hr
       obtain ⟨y2,hy2,rfl⟩:=List.getElem_of_mem hr
       exact DNR.out y2 (by rw [HN6.out];exact hy2) _ (List.getElem?_eq_getElem hy2)
 have BQ:=MQ.out.box
 unfold sbox at BQ
 have ⟨LQ,CQ,FQb⟩:=BQ
 have ⟨Leq,Ceq,Feq⟩:=SE.out.blk FQ.out.fx HBE.out
 obtain ⟨b6,o6,rfl,hl6,hi6',r6⟩:=sin_at (HS6V.out.fx FQ5.out.fx) hlt6
 obtain ⟨r,hr⟩ : ∃ r,(If.retL (Iv.pf p) ea)[i] = r:=⟨_,rfl⟩
 have hrm : r ∈ If.retL (Iv.pf p) ea:=by rw [← hr];exact List.getElem_mem hi6'
 have HRI : Hid ((If.retL (Iv.pf p) ea)[i]? = some r):=by rw [← hr];exact List.getElem?_eq_getElem hi6'
 have hrk : r < p.es.length:=(If.retL_mem.1 hrm).1
 have HR3 : Hid ((ge p.es r).k = 3 ∨ (ge p.es r).k = 4):=(If.retL_mem.1 hrm).2.1
 have HRC : Hid ((ge p.es r).c = (ea : Int)):=(If.retL_mem.1 hrm).2.2
 rw [hr] at r6
 have hi1 : (i : Int) < (n6 : Int):=by omega
 obtain ⟨b2,o2,ra,rb,e2,hl20,hl2,hr2,hra,hrb,hra2,hrb2,q2a,-,-,-⟩:=HI.out.edge HO.out MQ.out.low hrk
 have HRA:=Lib.hid hra
 have hra1 : ra < K.n1:=by rw [HN1.out];exact hra2
 have hra1' : (ra : Int) < (K.n1 : Int):=by omega
 have q3:=MQ.out.start.2 ra hra1
 have hsb:=MQ.out.start.1.1
 obtain ⟨st,hst⟩ : ∃ st,If.stOf p.ns ra = st:=⟨_,rfl⟩
 rw [hst] at q3
 have HFE : Hid ((gn p.ns (ge p.es k).b.toNat).f = (gn p.ns (ge p.es r).a.toNat).f ↔ st = eb):=by
   show _ ↔ _
   have h1:=If.NdOk.start_iff HO.out.pf.nd hra2 heb2 (by have h9:=(HO.out.pf.call (k:=k) hk HKD.out).1;have h8 : (Iv.pf p).es = p.es:=rfl;have h7 : (Iv.pf p).ns = p.ns:=rfl;rw [h7,h8,HEB.out,Int.toNat_natCast] at h9;exact h9)
   rw [HRA.out,HEB.out,Int.toNat_natCast,Int.toNat_natCast,← hst]
   exact h1.symm
 clear hr hra hrb hst hrm
 by_cases hse : st = eb
 case neg =>
   have hse1 : ((st : Int) != (eb : Int)) = true:=by simp;omega
   have hse2 : (st != eb) = true:=by simpa using hse
   have HSK : Hid (∀ y,y < i + 1 → ∀ r',(If.retL (Iv.pf p) ea)[y]? = some r' → DnR p k r' a x q s3):=fun y hy r' hr' => by
     rcases Nat.lt_or_ge y i with h1 | h1
     · exact DNR.out y h1 r' hr'
     · obtain rfl : y = i:=by omega
       rw [HRI.out] at hr'
       injection hr' with hr'
       rw [← hr']
       exact fun h9 => absurd (HFE.out.1 h9) hse
   clear hse
   go_upto_region 13 with fail
   go_quiet (fail)
   go_wp2_with fail
   exact ⟨⟨i + 1,s3,O3,G3,by omega,by go_num,Lib.hid (MQ.out.kept ((Kept.refl _ _).drewN _)),Lib.hid (FQ.out.trans (Fy.kept K O3 G3 s3 ((Kept.refl _ _).drewN _))),Lib.hid (FQ5.out.trans (Fy.kept K O3 G3 s3 ((Kept.refl _ _).drewN _))),EX3,HSK⟩,by simp [intOf];omega⟩
 subst hse
 go_upto_region 13 with fail
 go_quiet (fail)
 go_upto_region 14 with fail
 refine wp_named (fun X => Kept [] wq X) (by first | exact (Kept.refl _ _).drewN _ | exact Kept.refl _ _) ?_
 rintro V6 hkV6
 have MV6:=Lib.hid (MQ.out.kept hkV6)
 have FV6:=Lib.hid (FQ.out.trans (Fy.kept K O3 G3 s3 hkV6))
 have FV65:=Lib.hid (FQ5.out.trans (Fy.kept K O3 G3 s3 hkV6))
 have B6:=MV6.out.box
 unfold sbox at B6
 have ⟨L6,C6,F6b⟩:=B6
 obtain ⟨A7,n8,c7,hn8,hsn7,hget7⟩:=MV6.out.getl (i:=1) (n:=ra) (a:=o) (.inl rfl) hra1 (by omega)
 have HS7:=Lib.hid hsn7
 have HG7:=Lib.hid hget7
 have hn8b : n8 ≤ 1024:=by rw [hn8];exact Wf.lsLe EX3.out.good.wf HF2.out (.inl rfl)
 have HN8:=Lib.hid hn8
 clear hget7 hsn7 hn8 CQ FQb Ceq Feq r6 hl6 q2a q3 e2 MQ FQ FQ5
 go_upto_region 15 with (go_at_call 82;refine (HG7.out _ (Kept.refl _ _)).mono ?_;rintro e w7 ⟨rfl,hb7⟩)
 have hk67 : Kept [] V6 w7:=(Kept.refl _ _).call hb7
 have M8:=Lib.hid (MV6.out.kept hk67)
 have F8:=Lib.hid (FV6.out.trans (Fy.kept K O3 G3 s3 hk67))
 have F85:=Lib.hid (FV65.out.trans (Fy.kept K O3 G3 s3 hk67))
 have HS8 : Hid (SnapL K O3 G3 s3 w7 A7 n8 (s3.ls 1 ra o)):=(Fy.kept K O3 G3 s3 hk67).sn _ _ _ HS7.out
 clear C6 F6b MV6 FV6 FV65 HG7 HS7
 go_loopw [103] (fun s103 wz => ∃ (y : Nat) (s4 : St) (O4 : Nat → Prop) (G4 : Gh),y ≤ n8 ∧ s103 = .int .i64 y ∧ Hid (Mem p K w0 b O4 G4 wz s4) ∧ Hid (Fy K O O4 G G4 s s4 V0 wz) ∧ Hid (Fy K O2 O4 G2 G4 s2 s4 V5 wz) ∧ Hid (Fy K O3 O4 G3 G4 s3 s4 w7 wz) ∧ Hid (Ex p s3 s4) ∧ Hid (∀ z,z < y → ∀ f,(s3.ls 1 ra o)[z]? = some f → DnF p r a f x q s4)) (fun s103 _ => n8 - (intOf s103).toNat)
 case atStart => exact ⟨0,s3,O3,G3,Nat.zero_le _,rfl,M8,F8,F85,Lib.hid (Fy.refl _ _ _ _ _),Ex.refl EX3.out.good,fun i hi => absurd hi (Nat.not_lt_zero _)⟩
 case round =>
 rename World => wz
 clear M8 F8 F85
 obtain ⟨y,s4,O4,G4,hy8,rfl,MZ,FZ,FZ5,FZ7,EX4,DNF⟩:=hrel
 by_cases hlt8 : y < n8
 case neg =>
   obtain rfl : y = n8:=by omega
   go_wp2_with fail
   refine ⟨⟨i + 1,s4,O4,G4,by omega,by go_num,MZ,FZ,FZ5,EX3.out.trans EX4.out,fun z hz r' hr' => ?_⟩,by simp [intOf];omega⟩
   rcases Nat.lt_or_ge z i with h1 | h1
   · exact (DNR.out z h1 r' hr').mono EX4.out.gw
   · obtain rfl : z = i:=by omega
     rw [HRI.out] at hr'
     injection hr' with hr'
     rw [← hr']
     refine DnR.of HO.out EX3.out.good.wf EX4.out.gw (fun f hf => ?_)
     rw [HRA.out,HQO.out,Int.toNat_natCast,Int.toNat_natCast] at hf
     obtain ⟨y2,hy2,rfl⟩:=List.getElem_of_mem hf
     exact DNF.out y2 (by rw [HN8.out];exact hy2) _ (List.getElem?_eq_getElem hy2)
 have BZ:=MZ.out.box
 unfold sbox at BZ
 have ⟨LZ,CZ,FZb⟩:=BZ
 obtain ⟨b9,o9,rfl,hl9,hy9,r9⟩:=snap_at (FZ7.out.sn _ _ _ HS8.out) hlt8
 obtain ⟨f,hf⟩ : ∃ f,(s3.ls 1 ra o)[y] = f:=⟨_,rfl⟩
 have HFI2 : Hid ((s3.ls 1 ra o)[y]? = some f):=by rw [← hf];exact List.getElem?_eq_getElem hy9
 have hfF : f < p.F.toNat:=by
   have h1 : f ∈ s3.ls 1 ra o:=by rw [← hf];exact List.getElem_mem hy9
   exact (EX3.out.good.wf.rng _ _ _ ((EX3.out.good.wf.l1 _ _ _).1 h1)).2.2
 rw [hf] at r9
 have hy1 : (y : Int) < (n8 : Int):=by omega
 obtain ⟨y0,hy0⟩ : ∃ v,(s4.T ra o f).1.k = v:=⟨_,rfl⟩
 obtain ⟨y1,hy1'⟩ : ∃ v,(s4.T ra o f).1.b = v:=⟨_,rfl⟩
 obtain ⟨y2,hy2⟩ : ∃ v,(s4.T ra o f).1.c = v:=⟨_,rfl⟩
 have HEY : Hid ((s4.T ra o f).1 = ⟨y0,y1,y2⟩):=by show _ = _;rw [← hy0,← hy1',← hy2]
 obtain ⟨v0,hv0⟩ : ∃ v,(comp (comp x (xd q)) (s4.T ra o f)).1.k = v:=⟨_,rfl⟩
 obtain ⟨v1,hv1⟩ : ∃ v,(comp (comp x (xd q)) (s4.T ra o f)).1.b = v:=⟨_,rfl⟩
 obtain ⟨v2,hv2⟩ : ∃ v,(comp (comp x (xd q)) (s4.T ra o f)).1.c = v:=⟨_,rfl⟩
 have HEV : Hid ((comp (comp x (xd q)) (s4.T ra o f)).1 = ⟨v0,v1,v2⟩):=by show _ = _;rw [← hv0,← hv1,← hv2]
 have HGX : Hid (Calls Tryz.prog 83 #[.agg #[.slice (some ⟨K.tr 0,0,none⟩) K.n1 K.n1],.int .i64 ra,.agg #[.int .i64 (o : Int),.int .i64 (f : Int)]] wz fun e w' => e = .returned (.agg #[.int .i64 y0,.int .i64 y1,.int .i64 y2]) ∧ Below wz.heap.size wz w'):=MZ.out.getx hra1 (by omega) (by omega) HEY.out
 clear hf hy0 hy1' hy2 hv0 hv1 hv2
 go_upto_region 18 with (go_at_call 83;refine HGX.out.mono ?_;rintro e wg ⟨rfl,hbg⟩)
 refine wp_named (fun V => ∃ g,wg.heap.size = g ∧ Blk V g [.int .i64 y0,.int .i64 y1,.int .i64 y2] ∧ Kept [] wg V) ⟨_,rfl,Blk.new _ _ _ _ rfl,(Kept.refl _ _).alloc _⟩ ?_
 rintro V7 ⟨gy,egy,Bgy,hkV7⟩
 rw [egy]
 have ⟨Lgy,Cgy,Fgy⟩:=Bgy
 have hkz : Kept [] wz V7:=keptTrans ((Kept.refl _ _).call hbg) hkV7
 have M9:=Lib.hid (MZ.out.kept hkz)
 have hFz:=Fy.kept K O4 G4 s4 hkz
 have ⟨Lz9,Cz9,Fz9⟩:=SZ5.out.blk (FZ5.out.trans hFz).fx HBZ5.out
 have HCO2 : Hid (∀ w9,Calls Tryz.prog 85 #[.agg #[.int .i64 z0,.int .i64 z1,.int .i64 z2],.agg #[.int .i64 y0,.int .i64 y1,.int .i64 y2]] w9 fun e w' => e = .returned (.agg #[.int .i64 v0,.int .i64 v1,.int .i64 v2]) ∧ Below w9.heap.size w9 w'):=fun w9 => compD_any _ _ _ _ _ _ _ _ _ _ _ HEZ.out HEY.out HEV.out w9
 have HSP : Hid (∀ w9,Kept [] V7 w9 → Calls Tryz.prog 138 #[.pointer (some ⟨b,0,none⟩),.int .i64 r,.int .i64 a,.int .i64 f,.agg #[.int .i64 v0,.int .i64 v1,.int .i64 v2]] w9 (GetP p K w0 b O4 G4 V7 s4 fun t => ∀ u ∈ gl p.fl r,u.i = f → le (t.T (ge p.es r).b.toNat a u.o.toNat) (comp (comp (comp x (xd q)) (s4.T ra o f)) (xd u)))):=fun w9 hk9 =>
   (spread_any w9 r a f (comp (comp x (xd q)) (s4.T ra o f)) v0 v1 v2 HEV.out HI.out HO.out HFI.out HMU.out EX4.out.good (M9.out.kept hk9) hrk ha (fun Y hY u hu hui => by
     have h7:=enter_snd (f:=f) EX4.out.good.snd hk HKD.out HEA.out HQM.out HQD.out HSN.out hrk HR3.out HRC.out (HFE.out.2 (by trivial)) Y hY u hu hui
     rw [HRA.out,HQO.out,Int.toNat_natCast,Int.toNat_natCast] at h7
     exact h7)).mono (fun e w' h9 => h9.from hk9)
 clear CZ FZb r9 hl9 egy Bgy HGX
 go_wp2_with (first | (go_at_call 85;refine (HCO2.out _).mono ?_;rintro e w8 ⟨rfl,hb8⟩) | (go_at_call 138;refine (HSP.out _ ((Kept.refl _ _).call hb8)).mono ?_;rintro e wy ⟨s5,O5,G5,rfl,M5,F5,E5,D5⟩))
 have F5z:=hFz.trans F5
 refine ⟨⟨y + 1,s5,O5,G5,by omega,by go_num,M5,FZ.out.trans F5z,FZ5.out.trans F5z,FZ7.out.trans F5z,EX4.out.trans E5,fun z hz f' hf' => ?_⟩,by simp [intOf];omega⟩
 rcases Nat.lt_or_ge z y with h1 | h1
 · exact (DNF.out z h1 f' hf').mono E5.gw
 · obtain rfl : z = y:=by omega
   rw [HFI2.out] at hf'
   injection hf' with hf'
   rw [← hf']
   refine ⟨s4.T ra o f,?_,fun u hu hui => ?_⟩
   · rw [HRA.out,HQO.out,Int.toNat_natCast,Int.toNat_natCast]
     exact (Sn.self s4 ra o f).mono E5.gw
   · exact D5 u hu hui
end Go.Proofs.YtincpmdldpakkaaGreatDoor
