/- Texts: Ch Cd Ci. -/
import Derived.Test.YtincpmdldpakkaaGreatDoorMt35
import Derived.Test.YtincpmdldpakkaaGreatDoorMt27
namespace Go.Df
open Go.RowKit
namespace Iv
open Sp
def DVd (p : Vb) (T : Nat → Nat → Nat → D) (k a d : Nat) (v : U) (t : St) : Prop:=∀ q ∈ gl p.fl k,q.i = (d : Int) → leV (t.V (ge p.es k).b.toNat q.o.toNat) (app (comp (T (ge p.es k).a.toNat a d) (xd q)) v)
def DVk (p : Vb) (T : Nat → Nat → Nat → D) (k a : Nat) (v : U) (t : St) : Prop:=∀ q ∈ gl p.fl k,leV (t.V (ge p.es k).b.toNat q.o.toNat) (app (comp (T (ge p.es k).a.toNat a q.i.toNat) (xd q)) v)
theorem DVd.mono {p : Vb} {T : Nat → Nat → Nat → D} {k a d : Nat} {v : U} {s t : St} (h : DVd p T k a d v s) (g : GwV s t) : DVd p T k a d v t:=fun q hq hi => leV_trans (g.le _ _) (h q hq hi)
theorem DVk.mono {p : Vb} {T : Nat → Nat → Nat → D} {k a : Nat} {v : U} {s t : St} (h : DVk p T k a v s) (g : GwV s t) : DVk p T k a v t:=fun q hq => leV_trans (g.le _ _) (h q hq)
theorem DVk.of {p : Vb} {T : Nat → Nat → Nat → D} (ho : VOk p) {k a : Nat} {v : U} {s t : St} (hw : Wf p s) (hT : s.T = T) (h : ∀ d ∈ s.ls 1 (ge p.es k).a.toNat a,DVd p T k a d v t) : DVk p T k a v t:=fun q hq => by
 have hi : q.i = (q.i.toNat : Int):=by have:=(ho.pair hq).1;omega
 by_cases hm : q.i.toNat ∈ s.ls 1 (ge p.es k).a.toNat a
 · exact h _ hm q hq hi
 · have h0 : T (ge p.es k).a.toNat a q.i.toNat = top:=Classical.byContradiction fun h9 => hm ((hw.l1 _ _ _).2 (by rw [hT];exact h9))
   rw [h0,top_comp,top_app]
   exact leV_top _
theorem mem_leavL {p : Vb} {n k : Nat} : k ∈ leavL p n ↔ k < p.es.length ∧ (ge p.es k).k = 2 ∧ If.stOf p.ns (ge p.es k).a.toNat = n:=by simp [leavL]
theorem lower_snd {p : Vb} {T : Nat → Nat → Nat → D} {k n a d : Nat} {v : U} {q : Xp} (hk : k < p.es.length) (h2 : (ge p.es k).k = 2) (hn : If.stOf p.ns (ge p.es k).a.toNat = n) (hq : q ∈ gl p.fl k) (hqi : q.i = (d : Int)) (hv : ∀ Y,VClo p T Y → leV (Y n a) v) : ∀ Y,VClo p T Y → leV (Y (ge p.es k).b.toNat q.o.toNat) (app (comp (T (ge p.es k).a.toNat a d) (xd q)) v):=fun Y hY => by
 have h1:=hY.call k hk h2 q hq a
 rw [hn,hqi,Int.toNat_natCast] at h1
 exact leV_trans h1 (app_mono (le_refl _) (hv Y hY))
end Iv
end Go.Df
namespace Go.Proofs.YtincpmdldpakkaaGreatDoor
open Go.RowKit Go.Df Go.Df.Iv Go.Df.Sp
attribute [local go_sem ↓] Go.wp_at_zero Go.wp_at_succ
def GetV (p : Vb) (T : Nat → Nat → Nat → D) (K : Kn) (w0 : World) (b : Nat) (O : Nat → Prop) (G : Gh) (w : World) (s : St) (Q : St → Prop) (e : Ending) (w' : World) : Prop:=∃ s' O' G',e = .returned (.tuple #[]) ∧ Mem p K w0 b O' G' w' s' ∧ Fy K O O' G G' s s' w w' ∧ ExV p T s s' ∧ Q s'
theorem GetS.exV {p : Vb} {T : Nat → Nat → Nat → D} {K : Kn} {w0 w w' : World} {b : Nat} {O : Nat → Prop} {G : Gh} {s : St} {n a : Nat} {v : U} {e : Ending} (h : GetS p K w0 b O G w s (s.low n a v) e w') (hg : GoodV p T s) (hn : n < p.ns.length) (ha : a < p.F.toNat) (hv : ∀ Y,VClo p T Y → leV (Y n a) v) : GetV p T K w0 b O G w s (fun t => leV (t.V n a) v) e w':=by
 obtain ⟨O',G',h1,h2,h3⟩:=h
 exact ⟨_,O',G',h1,h2,h3,ExV.low hg hn ha hv,low_le s n a v⟩
theorem GetV.from {p : Vb} {T : Nat → Nat → Nat → D} {K : Kn} {w0 u w w' : World} {b : Nat} {O : Nat → Prop} {G : Gh} {s : St} {Q : St → Prop} {e : Ending} (h : GetV p T K w0 b O G w s Q e w') (hk : Kept [] u w) : GetV p T K w0 b O G u s Q e w':=by
 obtain ⟨s',O',G',h1,h2,h3,h4⟩:=h
 exact ⟨s',O',G',h1,h2,(Fy.kept K O G s hk).trans h3,h4⟩
set_option maxRecDepth 100000 in
set_option maxHeartbeats 100000000 in
theorem deal2_any {p : Vb} {T : Nat → Nat → Nat → D} {K : Kn} {w0 : World} {b bs : Nat} {O : Nat → Prop} {G : Gh} {s : St} (w : World) (n a c : Nat) (hI : Inp p K w0) (ho : VOk p) (hf : VFit p) (hmu : mu0 p ≤ 1000000) (hg : GoodV p T s) (hm : Mem p K w0 b O G w s) (hn : n < p.ns.length) (ha : a < p.F.toNat) (hbs : Blk w bs [.pointer (some ⟨b,0,none⟩)]) (hsb : SafeB O w bs) :
   Calls Tryz.prog 81 #[.int .i64 n,.agg #[.int .i64 a,.int .i64 c],.pointer (some ⟨bs,0,none⟩)] w (GetV p T K w0 b O G w s fun t => ∀ k ∈ leavL p n,DVk p T k a (s.V n a) t):=by
 have hF2 : p.F.toNat ≤ 1024:=by have:=ho.f2;omega
 have hE2 : p.es.length ≤ 32768:=(If.sup_parts ho.sup).2.1
 obtain ⟨v,hv⟩ : ∃ v,s.V n a = v:=⟨_,rfl⟩
 rw [hv]
 obtain ⟨v0,hv0⟩ : ∃ u,v.1.k = u:=⟨_,rfl⟩
 obtain ⟨v1,hv1⟩ : ∃ u,v.1.n = u:=⟨_,rfl⟩
 have HVV : Hid (v.1 = ⟨v0,v1⟩):=by show _ = _;rw [← hv0,← hv1]
 have HSN : Hid (∀ Y,VClo p T Y → leV (Y n a) v):=fun Y hY => by rw [← hv];exact hg.snd Y hY n a
 have HM:=Lib.hid hm
 have HG:=Lib.hid hg
 have HI:=Lib.hid hI
 have HO:=Lib.hid ho
 have HFI:=Lib.hid hf
 have HMU:=Lib.hid hmu
 have HBS:=Lib.hid hbs
 have HSB:=Lib.hid hsb
 have HN1:=Lib.hid hI.nd.1.symm
 have HN2 : Hid (K.n1 ≤ 8192):=by have h1:=(If.sup_parts ho.sup).1;have h2:=hI.nd.1;show _ ≤ _;omega
 have HF2 : Hid (p.F ≤ 1024):=ho.f2
 have hn1 : n < K.n1:=by rw [HN1.out];exact hn
 have hn1' : (n : Int) < (K.n1 : Int):=by omega
 have HGE : Hid (∀ w9,Kept [] w w9 → Calls Tryz.prog 35 #[.agg #[.slice (some ⟨K.tr 3,0,none⟩) K.n1 K.n1],.int .i64 n,.int .i64 (a : Nat)] w9 fun e w' => e = .returned (.agg #[.int .i64 v0,.int .i64 v1]) ∧ Below w9.heap.size w9 w'):=fun w9 hk9 => (hm.kept hk9).getv hn1 (by omega) (by rw [hv];exact HVV.out)
 clear hm hg hI ho hf hmu hbs hsb hv hv0 hv1
 go_enter Tryz.func81,Tryz.ntmps81
 go_upto_region 1 with fail
 refine wp_named (fun W => ∃ b0,w.heap.size = b0 ∧ Blk W b0 [.int .i64 a,.int .i64 c] ∧ Below w.heap.size w W) ⟨_,rfl,?_,?_⟩ ?_
 · exact kbn
 · go_grown
 rintro W ⟨b0,e0,B0,hB⟩
 rw [e0]
 have G0 : w.heap.size ≤ b0:=by omega
 clear e0
 have ⟨L0,C0,F0⟩:=B0
 have hkW : Kept [] w W:=(Kept.refl _ _).call hB
 have SA : Hid (SafeB O W b0):=HM.out.fresh G0 L0
 have HBA:=Lib.hid B0
 have ⟨LS,CS,FS⟩:=hkW.blk (by simp) HBS.out
 have BW:=(HM.out.kept hkW).box
 unfold sbox at BW
 have ⟨LW,CW,FW⟩:=BW
 go_cut [5] (fun s9 wx => ∃ g : Nat,s9 = .pointer (some ⟨g,0,none⟩) ∧ Blk wx g [.int .i64 v0,.int .i64 v1] ∧ Kept [] W wx ∧ W.heap.size ≤ g)
 case first =>
   go_region_held3 (fun w' => SX0 W w') (exact kp0) (first | (go_at_call 35;refine (HGE.out _ (keptTrans hkW (by (exact kpt0)))).mono ?_;rintro e w2 ⟨rfl,hb2⟩;obtain ⟨hc2,hf2,hg2⟩:=bcell hb2;have hz2:=hb2.size;try simp at hz2))
   all_goals
     go_wp2_with fail
     go_meet
     refine ⟨_,rfl,?_,?_,?_⟩
     · (exact kpb)
     · (exact kpt0)
     · first | (simp;done) | omega | (simp;omega)
 case rest =>
 obtain ⟨gv,rfl,Bgv,hkc,hgv⟩:=hcut
 have hkw : Kept [] w wc:=keptTrans hkW hkc
 have M0:=Lib.hid (HM.out.kept hkw)
 have F0w : Hid (Fy K O O G G s s w wc):=Fy.kept K O G s hkw
 have SVB : Hid (SafeB O wc gv):=HM.out.fresh (by have:=hkW.size;omega) Bgv.1
 have HBV:=Lib.hid Bgv
 have SA0 : Hid (SafeB O wc b0):=SA.out.fx (Fx.same (O:=O) hkc)
 have HBA0 : Hid (Blk wc b0 [.int .i64 a,.int .i64 c]):=hkc.blk (by simp) HBA.out
 have SS0 : Hid (SafeB O wc bs):=HSB.out.fx (Fx.same (O:=O) hkw)
 have HBS0 : Hid (Blk wc bs [.pointer (some ⟨b,0,none⟩)]):=hkw.blk (by simp) HBS.out
 have ⟨LS0,CS0,FS0⟩:=HBS0.out
 have B0':=M0.out.box
 unfold sbox at B0'
 have ⟨LB0,CB0,FB0⟩:=B0'
 obtain ⟨A6,n6,c6,r6,hs6⟩:=M0.out.leav.2 n hn1
 have hrl : K.rl < wc.heap.size:=M0.out.leav.1.1
 have HS6:=Lib.hid hs6
 have hn6 : n6 = (leavL p n).length:=by have:=hs6.1.1.1;rw [ofNats_len] at this;exact this.symm
 have hn6b : n6 ≤ 32768:=by
   have h1 : (leavL p n).length ≤ (List.range p.es.length).length:=List.length_filter_le _ _
   rw [List.length_range] at h1
   omega
 have HN6:=Lib.hid hn6
 obtain ⟨V0,hV0⟩ : ∃ V0,V0 = wc:=⟨_,rfl⟩
 subst hV0
 clear hs6 hn6 C0 F0 CS FS CW FW Bgv
 go_upto_region 3 with fail
 go_loopw [30] (fun s30 wr => ∃ (j : Nat) (s1 : St) (O1 : Nat → Prop) (G1 : Gh),j ≤ n6 ∧ s30 = .int .i64 j ∧ Hid (Mem p K w0 b O1 G1 wr s1) ∧ Hid (Fy K O O1 G G1 s s1 V0 wr) ∧ Hid (ExV p T s s1) ∧ Hid (∀ i,i < j → ∀ k,(leavL p n)[i]? = some k → DVk p T k a v s1)) (fun s30 _ => n6 - (intOf s30).toNat)
 case atStart => exact ⟨0,s,O,G,Nat.zero_le _,rfl,M0,Lib.hid (Fy.refl _ _ _ _ _),ExV.refl HG.out,fun i hi => absurd hi (Nat.not_lt_zero _)⟩
 case round =>
 rename World => wr
 clear M0 CB0 FB0 CS0 FS0 r6
 obtain ⟨j,s1,O1,G1,hj,rfl,MR,FR,EX,DN⟩:=hrel
 by_cases hlt : j < n6
 case neg =>
   obtain rfl : j = n6:=by omega
   go_wp2_with fail
   go_end0
   refine ⟨s1,O1,G1,rfl,MR.out,F0w.out.trans FR.out,EX.out,fun k hk => ?_⟩
   obtain ⟨i,hi,rfl⟩:=List.getElem_of_mem hk
   exact DN.out i (by rw [HN6.out];exact hi) _ (List.getElem?_eq_getElem hi)
 have BR:=MR.out.box
 unfold sbox at BR
 have ⟨LR,CR,FRb⟩:=BR
 have ⟨LSr,CSr,FSr⟩:=SS0.out.blk FR.out.fx HBS0.out
 obtain ⟨b6,o6,rfl,hl6,hj6,r6⟩:=sin_at (HS6.out.fx FR.out.fx) hlt
 obtain ⟨k,hk⟩ : ∃ k,(leavL p n)[j] = k:=⟨_,rfl⟩
 have hkm : k ∈ leavL p n:=by rw [← hk];exact List.getElem_mem hj6
 have HKJ : Hid ((leavL p n)[j]? = some k):=by rw [← hk];exact List.getElem?_eq_getElem hj6
 have hkk : k < p.es.length:=(mem_leavL.1 hkm).1
 have HK2 : Hid ((ge p.es k).k = 2):=(mem_leavL.1 hkm).2.1
 have HKS : Hid (If.stOf p.ns (ge p.es k).a.toNat = n):=(mem_leavL.1 hkm).2.2
 rw [hk] at r6
 have hj1 : (j : Int) < (n6 : Int):=by omega
 obtain ⟨b2,o2,ea,eb,e2,hl20,hl2,hk2,hea,heb,hea2,heb2,r2a,r2b,r2c,r2d⟩:=HI.out.edge HO.out MR.out.low hkk
 have HEA:=Lib.hid hea
 have HEB:=Lib.hid heb
 obtain ⟨ek,hek⟩ : ∃ x,(ge p.es k).k = x:=⟨_,rfl⟩
 obtain ⟨ec,hec⟩ : ∃ x,(ge p.es k).c = x:=⟨_,rfl⟩
 rw [hek] at r2c
 rw [hec] at r2d
 clear hk hkm hea heb hek hec
 go_upto_region 6 with fail
 refine wp_named (fun V => ∃ g0,wr.heap.size = g0 ∧ Blk V g0 [.int .i64 ea,.int .i64 eb,.int .i64 ek,.int .i64 ec] ∧ Kept [] wr V) ⟨_,rfl,Blk.new _ _ _ _ rfl,(Kept.refl _ _).alloc _⟩ ?_
 rintro V1 ⟨g0,eg0,Bg0,hkV1⟩
 rw [eg0]
 have SE : Hid (SafeB O1 V1 g0):=MR.out.fresh (by omega) Bg0.1
 have HBE:=Lib.hid Bg0
 have MV1:=Lib.hid (MR.out.kept hkV1)
 have FV1:=Lib.hid (FR.out.trans (Fy.kept K O1 G1 s1 hkV1))
 have BV1:=MV1.out.box
 unfold sbox at BV1
 have ⟨LV1,CV1,FVb1⟩:=BV1
 have ⟨Le1,Ce1,Fe1⟩:=Bg0
 have ⟨La1,Ca1,Fa1⟩:=SA0.out.blk FV1.out.fx HBA0.out
 have ⟨Ls1,Cs1,Fs1⟩:=SS0.out.blk FV1.out.fx HBS0.out
 have hea1 : ea < K.n1:=by rw [HN1.out];exact hea2
 have hea1' : (ea : Int) < (K.n1 : Int):=by omega
 obtain ⟨A8,n8,c8,hn8,hsn8,hget8⟩:=MV1.out.getl (i:=1) (n:=ea) (a:=a) (.inl rfl) hea1 (by omega)
 have HS8:=Lib.hid hsn8
 have HG8:=Lib.hid hget8
 have hn8b : n8 ≤ 1024:=by rw [hn8];exact Wf.lsLe EX.out.good.wf HF2.out (.inl rfl)
 have HN8:=Lib.hid hn8
 clear hget8 hsn8 hn8 CR FRb CSr FSr r6 hl6 r2a r2b r2c r2d hl2 e2 eg0 MR FR
 go_region_held3 (fun w' => SX0 V1 w') (exact kp0) (first | (go_at_call 82;refine (HG8.out _ (by (exact kpt0))).mono ?_;rintro e w8 ⟨rfl,hb8⟩;obtain ⟨hc8,hf8,hg8⟩:=bcell hb8;have hz8:=hb8.size;have hk8 : Kept [] V1 w8:=Kept.call (by (exact kpt0)) hb8))
 have M8:=Lib.hid (MV1.out.kept hk8)
 have F8:=Lib.hid (FV1.out.trans (Fy.kept K O1 G1 s1 hk8))
 have HS8V : Hid (SnapL K O1 G1 s1 w8 A8 n8 (s1.ls 1 ea a)):=(Fy.kept K O1 G1 s1 hk8).sn _ _ _ HS8.out
 have SE8 : Hid (SafeB O1 w8 g0):=SE.out.fx (Fx.same (O:=O1) hk8)
 have HBE8 : Hid (Blk w8 g0 [.int .i64 ea,.int .i64 eb,.int .i64 ek,.int .i64 ec]):=hk8.blk (by simp) HBE.out
 clear CV1 FVb1 BV1 LV1 Ce1 Fe1 Ca1 Fa1 Cs1 Fs1 hc8 hf8 hg8 MV1 FV1 HG8 HS8 SE HBE
 go_wp2_with fail
 go_loopw [53] (fun s53 wz => ∃ (y : Nat) (s2 : St) (O2 : Nat → Prop) (G2 : Gh),y ≤ n8 ∧ s53 = .int .i64 y ∧ Hid (Mem p K w0 b O2 G2 wz s2) ∧ Hid (Fy K O O2 G G2 s s2 V0 wz) ∧ Hid (Fy K O1 O2 G1 G2 s1 s2 w8 wz) ∧ Hid (ExV p T s1 s2) ∧ Hid (∀ z,z < y → ∀ d,(s1.ls 1 ea a)[z]? = some d → DVd p T k a d v s2)) (fun s53 _ => n8 - (intOf s53).toNat)
 case atStart => exact ⟨0,s1,O1,G1,Nat.zero_le _,rfl,M8,F8,Lib.hid (Fy.refl _ _ _ _ _),ExV.refl EX.out.good,fun i hi => absurd hi (Nat.not_lt_zero _)⟩
 case round =>
 rename World => wz
 clear M8 F8
 obtain ⟨y,s2,O2,G2,hy8,rfl,MZ,FZ,FZ8,EX2,DND⟩:=hrel
 by_cases hlt8 : y < n8
 case neg =>
   obtain rfl : y = n8:=by omega
   go_wp2_with fail
   refine ⟨⟨j + 1,s2,O2,G2,by omega,by go_num,MZ,FZ,EX.out.trans EX2.out,fun y2 hy2 k' hk' => ?_⟩,by simp [intOf];omega⟩
   rcases Nat.lt_or_ge y2 j with h1 | h1
   · exact (DN.out y2 h1 k' hk').mono EX2.out.gw
   · obtain rfl : y2 = j:=by omega
     rw [HKJ.out] at hk'
     injection hk' with hk'
     rw [← hk']
     refine DVk.of HO.out EX.out.good.wf EX.out.good.eT (fun d hd => ?_)
     rw [HEA.out,Int.toNat_natCast] at hd
     obtain ⟨y3,hy3,rfl⟩:=List.getElem_of_mem hd
     exact DND.out y3 (by rw [HN8.out];exact hy3) _ (List.getElem?_eq_getElem hy3)
 have BZ:=MZ.out.box
 unfold sbox at BZ
 have ⟨LZ,CZ,FZb⟩:=BZ
 have ⟨Lez,Cez,Fez⟩:=SE8.out.blk FZ8.out.fx HBE8.out
 have ⟨Laz,Caz,Faz⟩:=SA0.out.blk FZ.out.fx HBA0.out
 have ⟨Lsz,Csz,Fsz⟩:=SS0.out.blk FZ.out.fx HBS0.out
 obtain ⟨b9,o9,rfl,hl9,hy9,r9⟩:=snap_at (FZ8.out.sn _ _ _ HS8V.out) hlt8
 obtain ⟨d,hd⟩ : ∃ f,(s1.ls 1 ea a)[y] = f:=⟨_,rfl⟩
 have HDI : Hid ((s1.ls 1 ea a)[y]? = some d):=by rw [← hd];exact List.getElem?_eq_getElem hy9
 have hdF : d < p.F.toNat:=by
   have h1 : d ∈ s1.ls 1 ea a:=by rw [← hd];exact List.getElem_mem hy9
   exact (EX.out.good.wf.rng _ _ _ ((EX.out.good.wf.l1 _ _ _).1 h1)).2.2
 rw [hd] at r9
 have hy1 : (y : Int) < (n8 : Int):=by omega
 obtain ⟨x0,hx0⟩ : ∃ u,(T ea a d).1.k = u:=⟨_,rfl⟩
 obtain ⟨x1,hx1⟩ : ∃ u,(T ea a d).1.b = u:=⟨_,rfl⟩
 obtain ⟨x2,hx2⟩ : ∃ u,(T ea a d).1.c = u:=⟨_,rfl⟩
 have HEX : Hid ((T ea a d).1 = ⟨x0,x1,x2⟩):=by show _ = _;rw [← hx0,← hx1,← hx2]
 have HGX : Hid (∀ w9,Kept [] wz w9 → Calls Tryz.prog 83 #[.agg #[.slice (some ⟨K.tr 0,0,none⟩) K.n1 K.n1],.int .i64 ea,.agg #[.int .i64 (a : Int),.int .i64 (d : Int)]] w9 fun e w' => e = .returned (.agg #[.int .i64 x0,.int .i64 x1,.int .i64 x2]) ∧ Below w9.heap.size w9 w'):=fun w9 hk9 => (MZ.out.kept hk9).getx hea1 (by omega) (by omega) (by rw [EX2.out.good.eT];exact HEX.out)
 clear hd hx0 hx1 hx2
 go_upto_region 9 with fail
 go_cut [11] (fun s9 wx => ∃ g : Nat,s9 = .pointer (some ⟨g,0,none⟩) ∧ Blk wx g [.int .i64 x0,.int .i64 x1,.int .i64 x2] ∧ Kept [] wz wx ∧ wz.heap.size ≤ g)
 case first =>
   go_region_held3 (fun w' => SX0 wz w') (exact kp0) (first | (go_at_call 83;refine (HGX.out _ (by (exact kpt0))).mono ?_;rintro e w2 ⟨rfl,hb2⟩;obtain ⟨hc2,hf2,hg2⟩:=bcell hb2;have hz2:=hb2.size;try simp at hz2))
   all_goals
     go_wp2_with fail
     go_meet
     refine ⟨_,rfl,?_,?_,?_⟩
     · (exact kpb)
     · (exact kpt0)
     · first | (simp;done) | omega | (simp;omega)
 case rest =>
 obtain ⟨gx0,rfl,Bgx,hkc2,hgx⟩:=hcut
 have MC:=Lib.hid (MZ.out.kept hkc2)
 have hFc:=Fy.kept K O2 G2 s2 hkc2
 have FC:=Lib.hid (FZ.out.trans hFc)
 have FC8:=Lib.hid (FZ8.out.trans hFc)
 have SXX : Hid (SafeB O2 wc gx0):=MZ.out.fresh hgx Bgx.1
 have HBX:=Lib.hid Bgx
 have BC:=MC.out.box
 unfold sbox at BC
 have ⟨LC,CC,FCb⟩:=BC
 have ⟨Lsc,Csc,Fsc⟩:=SS0.out.blk FC.out.fx HBS0.out
 obtain ⟨b3,o3,Ai,ni,ci,e3,hl30,hl3,hk3,r3,hci,hxps,hni,hni2⟩:=HI.out.flow HO.out MC.out.low hkk
 have HPR:=Lib.hid hxps
 clear Cez Fez Caz Faz Csz Fsz CZ FZb r9 hl9 HGX hxps Bgx MZ FZ FZ8
 go_upto_region 11 with (go_at_call 84;refine (from_any Ai ni ci d (gl p.fl k) w0 _ HPR.out MC.out.low hni hni2 hci (gx_mono HO.out)).mono ?_;rintro e w1 ⟨A',m,c',rfl,hp1,hb1⟩)
 have HP1:=Lib.hid hp1
 have HML:=Lib.hid hp1.1.symm
 have hk1 : Kept [] wc w1:=(Kept.refl _ _).call hb1
 have M1:=Lib.hid (MC.out.kept hk1)
 have hF1:=Fy.kept K O2 G2 s2 hk1
 have F1:=Lib.hid (FC.out.trans hF1)
 have F18:=Lib.hid (FC8.out.trans hF1)
 have SX1' : Hid (SafeB O2 w1 gx0):=SXX.out.fx (Fx.same (O:=O2) hk1)
 have HBX1 : Hid (Blk w1 gx0 [.int .i64 x0,.int .i64 x1,.int .i64 x2]):=hk1.blk (by simp) HBX.out
 have hm8 : m ≤ 8192:=by
   have h3 : (fromsX (gl p.fl k) d).length ≤ (gl p.fl k).length:=List.length_filter_le _ _
   have h2:=HPR.out.1
   have h4:=HML.out
   omega
 clear hp1 r3 e3 hl3 hk3 CC FCb BC LC Csc Fsc HPR MC FC FC8 SXX HBX
 go_loopw [79] (fun s79 wq => ∃ (i : Nat) (s3 : St) (O3 : Nat → Prop) (G3 : Gh),i ≤ m ∧ s79 = .int .i64 i ∧ Hid (Mem p K w0 b O3 G3 wq s3) ∧ Hid (Fy K O O3 G G3 s s3 V0 wq) ∧ Hid (Fy K O1 O3 G1 G3 s1 s3 w8 wq) ∧ Hid (Fy K O2 O3 G2 G3 s2 s3 w1 wq) ∧ Hid (ExV p T s2 s3) ∧ Hid (∀ z,z < i → ∀ q,(fromsX (gl p.fl k) d)[z]? = some q → leV (s3.V (ge p.es k).b.toNat q.o.toNat) (app (comp (T ea a d) (xd q)) v))) (fun s79 _ => m - (intOf s79).toNat)
 case atStart => exact ⟨0,s2,O2,G2,Nat.zero_le _,rfl,M1,F1,F18,Lib.hid (Fy.refl _ _ _ _ _),ExV.refl EX2.out.good,fun i hi => absurd hi (Nat.not_lt_zero _)⟩
 case round =>
 rename World => wq
 clear M1 F1 F18
 obtain ⟨i,s3,O3,G3,hi8,rfl,MQ,FQ,FQ8,FQ1,EX3,DNP⟩:=hrel
 by_cases hltm : i < m
 case neg =>
   obtain rfl : i = m:=by omega
   go_wp2_with fail
   refine ⟨⟨y + 1,s3,O3,G3,by omega,by go_num,MQ,FQ,FQ8,EX2.out.trans EX3.out,fun z hz d' hd' => ?_⟩,by simp [intOf];omega⟩
   rcases Nat.lt_or_ge z y with h1 | h1
   · exact (DND.out z h1 d' hd').mono EX3.out.gw
   · obtain rfl : z = y:=by omega
     rw [HDI.out] at hd'
     injection hd' with hd'
     rw [← hd']
     intro q hq hqi
     rw [HEA.out,Int.toNat_natCast]
     obtain ⟨z2,hz2,rfl⟩:=List.getElem_of_mem (mem_fromsX.2 ⟨hq,hqi⟩)
     exact DNP.out z2 (by rw [HML.out];exact hz2) _ (List.getElem?_eq_getElem hz2)
 obtain ⟨b5,o5,q,i',o,rfl,hl50,hl5,hjq,hqm,hqi,hqo,hiF,hoF,r50,r51,r52,r53,r54⟩:=xps_at HO.out MQ.out.low (l:=fromsX (gl p.fl k) d) (fun q hq => (mem_fromsX.1 hq).1) HP1.out hltm
 have hi1 : (i : Int) < (m : Int):=by omega
 have HXD : Hid ((xd q).1 = ⟨q.k,q.b,q.c⟩):=xd_of HO.out HFI.out hqm
 have hqd : q.i = d:=by
   obtain ⟨h1,h2⟩:=List.getElem?_eq_some_iff.1 hjq
   rw [← h2]
   exact (mem_fromsX.1 (List.getElem_mem h1)).2
 obtain ⟨qk,hqk⟩ : ∃ v,q.k = v:=⟨_,rfl⟩
 obtain ⟨qb,hqb⟩ : ∃ v,q.b = v:=⟨_,rfl⟩
 obtain ⟨qc,hqc⟩ : ∃ v,q.c = v:=⟨_,rfl⟩
 rw [hqk] at r52
 rw [hqb] at r53
 rw [hqc] at r54
 have HXE : Hid ((xd q).1 = ⟨qk,qb,qc⟩):=by rw [← hqk,← hqb,← hqc];exact HXD
 have HJQ:=Lib.hid hjq
 have HQM:=Lib.hid hqm
 have HQO:=Lib.hid hqo
 have HQD:=Lib.hid hqd
 clear hqk hqb hqc hjq hqm hqo hqi hqd HXD
 go_upto_region 13 with fail
 refine wp_named (fun V => ∃ g,wq.heap.size = g ∧ Blk V g [.int .i64 i',.int .i64 o,.int .i64 qk,.int .i64 qb,.int .i64 qc] ∧ Kept [] wq V) ⟨_,rfl,Blk.new _ _ _ _ rfl,(Kept.refl _ _).alloc _⟩ ?_
 rintro V9 ⟨gq,eg,Bg,hkV9⟩
 rw [eg]
 have ⟨Lg,Cg,Fg⟩:=Bg
 have M9:=Lib.hid (MQ.out.kept hkV9)
 have hF9:=Fy.kept K O3 G3 s3 hkV9
 have F9:=Lib.hid (FQ.out.trans hF9)
 have ⟨Lx9,Cx9,Fx9⟩:=SX1'.out.blk (FQ1.out.trans hF9).fx HBX1.out
 have ⟨Ls9,Cs9,Fs9⟩:=SS0.out.blk F9.out.fx HBS0.out
 have ⟨Lv9,Cv9,Fv9⟩:=SVB.out.blk F9.out.fx HBV.out
 have ⟨Le9,Ce9,Fe9⟩:=SE8.out.blk (FQ8.out.trans hF9).fx HBE8.out
 obtain ⟨z0,hz0⟩ : ∃ u,(comp (T ea a d) (xd q)).1.k = u:=⟨_,rfl⟩
 obtain ⟨z1,hz1⟩ : ∃ u,(comp (T ea a d) (xd q)).1.b = u:=⟨_,rfl⟩
 obtain ⟨z2,hz2⟩ : ∃ u,(comp (T ea a d) (xd q)).1.c = u:=⟨_,rfl⟩
 have eZ : (comp (T ea a d) (xd q)).1 = ⟨z0,z1,z2⟩:=by rw [← hz0,← hz1,← hz2]
 obtain ⟨u0,hu0⟩ : ∃ u,(app (comp (T ea a d) (xd q)) v).1.k = u:=⟨_,rfl⟩
 obtain ⟨u1,hu1⟩ : ∃ u,(app (comp (T ea a d) (xd q)) v).1.n = u:=⟨_,rfl⟩
 have eU : (app (comp (T ea a d) (xd q)) v).1 = ⟨u0,u1⟩:=by rw [← hu0,← hu1]
 have HCO : Hid (∀ w9,Calls Tryz.prog 85 #[.agg #[.int .i64 x0,.int .i64 x1,.int .i64 x2],.agg #[.int .i64 qk,.int .i64 qb,.int .i64 qc]] w9 fun e w' => e = .returned (.agg #[.int .i64 z0,.int .i64 z1,.int .i64 z2]) ∧ Below w9.heap.size w9 w'):=fun w9 => compD_any _ _ _ _ _ _ _ _ _ _ _ HEX.out HXE.out eZ w9
 have HAP : Hid (∀ w9,Calls Tryz.prog 34 #[.agg #[.int .i64 z0,.int .i64 z1,.int .i64 z2],.agg #[.int .i64 v0,.int .i64 v1]] w9 fun e w' => e = .returned (.agg #[.int .i64 u0,.int .i64 u1]) ∧ Below w9.heap.size w9 w'):=fun w9 => appU_any _ _ _ _ _ _ _ _ _ eZ HVV.out eU w9
 have HLO : Hid (∀ w9,Kept [] V9 w9 → Calls Tryz.prog 80 #[.pointer (some ⟨b,0,none⟩),.int .i64 eb,.int .i64 o,.agg #[.int .i64 u0,.int .i64 u1]] w9 (GetV p T K w0 b O3 G3 V9 s3 fun t => leV (t.V eb o) (app (comp (T ea a d) (xd q)) v))):=fun w9 hk9 =>
   (lower_any w9 eb o (app (comp (T ea a d) (xd q)) v) u0 u1 eU (M9.out.kept hk9) EX3.out.good.wf HN1.out HN2.out HF2.out HMU.out heb2 hoF).mono (fun e w' h9 => (h9.exV EX3.out.good heb2 hoF (fun Y hY => by
     have h7:=lower_snd hkk HK2.out HKS.out HQM.out HQD.out HSN.out Y hY
     rw [HEA.out,HEB.out,HQO.out,Int.toNat_natCast,Int.toNat_natCast,Int.toNat_natCast] at h7
     exact h7)).from hk9)
 clear hz0 hz1 hz2 hu0 hu1 eZ eU r50 r51 r52 r53 r54 hl5 eg Bg MQ
 refine wp_region_E 11 (fun w' => SX0 V9 w') (by kernel_rfl) (by (exact kp0)) (fun hHeld => ?_)
 refine WE_tk 0 ?_
 refine WE_tk 1 ?_
 refine WE_tk 2 ?_
 refine WE_tk 3 ?_
 refine WE_tk 4 ?_
 refine WE_tk 5 ?_
 refine WE_tk 6 ?_
 refine WE_tk 7 ?_
 refine WE_tk 9 ?_
 refine WE_step 8 rfl (by kernel_rfl) (fun K hK => ?_)
 go_simp
 (first | (go_at_call 85;refine (HCO.out _).mono ?_;rintro e w4 ⟨rfl,hb4⟩) | (go_at_call 34;refine (HAP.out _).mono ?_;rintro e w5 ⟨rfl,hb5⟩) | (go_at_call 80;refine (HLO.out _ (by (exact kpt0))).mono ?_;rintro e w7 ⟨s7,O7,G7,rfl,M7,F7,E7,D7⟩))
 (try go_wp2_with fail)
 refine hK.out _ _ ?_ (fun hHeld => ?_)
 · (exact kp0)
 clear hK K
 refine WE_put ?_
 refine WE_step 10 rfl (by kernel_rfl) (fun K hK => ?_)
 go_simp
 (first | (go_at_call 85;refine (HCO.out _).mono ?_;rintro e w4 ⟨rfl,hb4⟩) | (go_at_call 34;refine (HAP.out _).mono ?_;rintro e w5 ⟨rfl,hb5⟩) | (go_at_call 80;refine (HLO.out _ (by (exact kpt0))).mono ?_;rintro e w7 ⟨s7,O7,G7,rfl,M7,F7,E7,D7⟩))
 (try go_wp2_with fail)
 refine hK.out _ _ ?_ (fun hHeld => ?_)
 · (exact kp0)
 clear hK K
 refine WE_put ?_
 refine WE_last rfl (by kernel_rfl) (fun K hK => ?_)
 go_simp
 (first | (go_at_call 85;refine (HCO.out _).mono ?_;rintro e w4 ⟨rfl,hb4⟩) | (go_at_call 34;refine (HAP.out _).mono ?_;rintro e w5 ⟨rfl,hb5⟩) | (go_at_call 80;refine (HLO.out _ (by (exact kpt0))).mono ?_;rintro e w7 ⟨s7,O7,G7,rfl,M7,F7,E7,D7⟩))
 (try go_wp2_with fail)
 refine hK.out _ _ ?_
 clear hK K
 go_wp2_with fail
 have F7':=hF9.trans F7
 refine ⟨⟨i + 1,s7,O7,G7,by omega,by go_num,M7,FQ.out.trans F7',FQ8.out.trans F7',FQ1.out.trans F7',EX3.out.trans E7,fun z hz q' hq' => ?_⟩,by simp [intOf];omega⟩
 rcases Nat.lt_or_ge z i with h1 | h1
 · exact leV_trans (E7.gw.le _ _) (DNP.out z h1 q' hq')
 · obtain rfl : z = i:=by omega
   rw [HJQ.out] at hq'
   injection hq' with hq'
   rw [← hq',HEB.out,HQO.out,Int.toNat_natCast,Int.toNat_natCast]
   exact D7
set_option maxRecDepth 100000 in
set_option maxHeartbeats 100000000 in
theorem drain2_any {p : Vb} {K : Kn} {w0 : World} {b bs : Nat} {O : Nat → Prop} {G : Gh} {s : St} (w : World) (J : Nat → List (Nat × Nat) → St → Prop) (hJ : Dr p J) (hN1 : K.n1 = p.ns.length) (hNS : p.ns.length ≤ 8192) (hmu : mu0 p ≤ 1000000) (hm : Mem p K w0 b O G w s) (hj : J 0 [] s) (hbs : Blk w bs [.pointer (some ⟨b,0,none⟩)]) (hsb : SafeB O w bs)
   (hdeal : ∀ (w9 : World) (O9 : Nat → Prop) (G9 : Gh) (s9 : St) (n a d : Nat) (rest : List (Nat × Nat)),Mem p K w0 b O9 G9 w9 s9 → J n ((a,d) :: rest) s9 → Blk w9 bs [.pointer (some ⟨b,0,none⟩)] → SafeB O9 w9 bs →
     Calls Tryz.prog 81 #[.int .i64 n,.agg #[.int .i64 a,.int .i64 d],.pointer (some ⟨bs,0,none⟩)] w9 (GetD p K w0 b O9 G9 w9 s9 (J n rest))) :
   Calls Tryz.prog 77 #[.pointer (some ⟨b,0,none⟩),.func (.func 81) #[] #[.pointer (some ⟨bs,0,none⟩)]] w (fun e w' => ∃ s' O' G',e = .returned (.tuple #[]) ∧ Mem p K w0 b O' G' w' s' ∧ Fy K O O' G G' s s' w w' ∧ J 0 [] s' ∧ s'.q = []):=by
 have HK1:=Lib.hid hN1
 have HJ:=Lib.hid hJ
 have HD:=Lib.hid hdeal
 have HSB:=Lib.hid hsb
 have HBS:=Lib.hid hbs
 obtain ⟨PM,hPM⟩ : ∃ PM : Nat → World → Prop,PM = fun m wr => ∃ O1 G1 s1,Mem p K w0 b O1 G1 wr s1 ∧ Fy K O O1 G G1 s s1 w wr ∧ J 0 [] s1 ∧ mea p s1 = m:=⟨_,rfl⟩
 have HPM:=Lib.hid hPM
 have hPM0 : ∃ m,PM m w:=by rw [hPM];exact ⟨_,O,G,s,hm,Fy.refl _ _ _ _ _,hj,rfl⟩
 clear hPM hm hj hbs hsb hdeal hJ hN1
 go_enter Tryz.func77,Tryz.ntmps77
 go_wp2_with fail
 go_loopw [10] (fun _ wr => ∃ m,PM m wr) (fun _ wr => leastM PM wr)
 case atStart => exact hPM0
 case round =>
 clear hPM0
 rename World => wr
 have hex:=hrel
 have hsp:=leastM_spec hex
 obtain ⟨lv,hlv⟩ : ∃ lv,lv = leastM PM wr:=⟨_,rfl⟩
 rw [← hlv] at hsp
 rw [show PM = _ from HPM.out] at hsp
 have HLV:=Lib.hid hlv
 clear hlv
 obtain ⟨O1,G1,s1,MR',FR',JV',hme⟩:=hsp
 have MR:=Lib.hid MR'
 have FR:=Lib.hid FR'
 have JV:=Lib.hid JV'
 have HWF:=Lib.hid (HJ.out.wf _ _ _ JV')
 have HME:=Lib.hid hme
 have BR:=MR.out.box
 unfold sbox at BR
 have ⟨LR,CR,FRb⟩:=BR
 have HQ:=Lib.hid MR.out.queue
 have HRK:=Lib.hid MR.out.rank
 clear MR' FR' JV' hme hex hrel
 cases hq : s1.q with
 | nil =>
   have hqn : G1.qn = 0:=by have h1:=HQ.out.1.1.1;rw [hq] at h1;exact h1.symm
   have HQN:=Lib.hid hqn
   have HQ0 : Hid (Ints wr G1.qA G1.qn []):=Lib.hid (by have h1:=HQ.out.1.1;rw [hq] at h1;exact h1)
   have HQE:=Lib.hid hq
   clear hq hqn
   go_wp2_with (go_at_call 137;refine (pop_no G1.rA G1.qA 0 G1.rc G1.qn G1.qc [] [] _ HRK.out.1 HQ0.out (.inr HQN.out)).mono ?_;rintro e w2 ⟨rA,rn,rc,qA,qn,qc,rfl,hr2,hq2,hb2,hfr2,hfq2⟩)
   refine bodyPost_ret (results_none rfl _ _ _) rfl ?_
   have hke : Kept [] wr (w2.alloc _):=((Kept.refl _ _).call hb2).alloc (.cells #[.slice rA rn rc,.slice qA qn qc] 97)
   exact ⟨s1,O1,G1,rfl,MR.out.kept hke,FR.out.trans (Fy.kept K O1 G1 s1 hke),JV.out,HQE.out⟩
 | cons n r =>
   have hnd:=HWF.out.qn
   rw [hq] at hnd
   have hqN : ∀ x ∈ n :: r,x < p.ns.length:=fun x hx => by
     have h1:=(HWF.out.qp x).1 (by rw [hq];exact hx)
     obtain ⟨y,hy⟩:=List.exists_mem_of_ne_nil _ h1
     exact (HWF.out.pr x y hy).1
   have hn : n < p.ns.length:=hqN n (by simp)
   have HQC : Hid (SIn wr G1.qA G1.qn G1.qc (ofNats (n :: r))):=Lib.hid (by have h1:=HQ.out.1;rw [hq] at h1;exact h1)
   have HND2:=Lib.hid hnd
   have HQL:=Lib.hid hqN
   have HQE:=Lib.hid hq
   have hnK : n < K.n1:=by rw [HK1.out];exact hn
   have hnK' : (n : Int) < (K.n1 : Int):=by omega
   clear hnd hqN hq HQ
   go_upto_region 1 with (go_at_call 137;refine (pop_some _ HRK.out HQC.out HND2.out HQL.out hNS).mono ?_;rintro e w2 ⟨rA,rn,rc,qA,qn,qc,rfl,hr2,hq2,hb2,hfr2,hfq2⟩)
   obtain rfl : rn = 0:=hr2.1.1.symm
   refine wp_named (fun V => ∃ y,w2.heap.size = y ∧ Blk V y [.slice rA 0 rc,.slice qA qn qc] ∧ Kept [] w2 V) ⟨_,rfl,Blk.new _ _ _ _ rfl,(Kept.refl _ _).alloc _⟩ ?_
   rintro V5 ⟨y,ey,By,hkV⟩
   rw [ey]
   have ⟨Ly,Cy,Fy'⟩:=By
   have hk5 : Kept [] wr V5:=keptTrans ((Kept.refl _ _).call hb2) hkV
   have MV:=Lib.hid (MR.out.kept hk5)
   have FV:=Lib.hid (FR.out.trans (Fy.kept K O1 G1 s1 hk5))
   have HQV : Hid (SInO O1 V5 qA qn qc (ofNats r)):=Lib.hid ((SInO.new (O:=O1) hq2 hfq2 (fun x hx => (MR.out.og x hx).2)).fx (.same hkV))
   have HRV : Hid (SIn V5 rA 0 rc []):=Lib.hid (hr2.kept hkV)
   have BV:=MV.out.box
   unfold sbox at BV
   have ⟨LV,CV,FVb⟩:=BV
   clear CR FRb ey hq2 hr2 HRK HQC MR
   go_upto_region 3 with fail
   have hset:=MV.out.set_queue HQV.out HRV.out
   refine wp_named (fun X => ∃ G2,Mem p K w0 b O1 G2 X (s1.setQ r) ∧ Fy K O1 O1 G1 G2 s1 (s1.setQ r) V5 X) ⟨_,hset⟩ ?_
   rintro X ⟨G2,MX',FX'⟩
   have MX:=Lib.hid MX'
   have FXX:=Lib.hid (FV.out.trans FX')
   have BX5:=MX.out.box
   unfold sbox at BX5
   have ⟨LX5,CX5,FX5⟩:=BX5
   obtain ⟨Ab,mb,cb,hpv,hmb⟩ : ∃ A9 m9 c9,G2.pv n = .slice A9 m9 c9 ∧ m9 = (s1.pd n).length:=by
     rcases (MX.out.pown n hnK).2 with ⟨h1,h2⟩ | ⟨g',cap,cur,h1,_⟩
     · exact ⟨_,_,_,h1,h2.symm⟩
     · exact ⟨_,_,_,h1,rfl⟩
   have OWN : Hid (X.ownsRow w0.heap.size 101 2 (.slice Ab mb cb) mb (pcells (s1.pd n))):=Lib.hid (by have h9:=MX.out.pown n hnK;rw [hpv,show ((s1.setQ r).pd n).length = mb from hmb.symm] at h9;exact h9)
   have rP : X.cell? ⟨K.pr,n,none⟩ = some (.slice Ab mb cb):=by rw [← hpv];exact MX.out.prow n hnK
   have fP:=MX.out.ptag.frozen n
   have hprX : K.pr < X.heap.size:=MX.out.ptag.lt
   obtain ⟨O3,G3,M3',F3',h3o⟩:=MX.out.set_nil (n:=n) hnK
   have HSB2 : Hid (∀ a,Ab = some a → SafeB O3 (X.setCell ⟨K.pr,n,none⟩ (.slice none 0 0)) a.block ∧ a.block ≠ K.pr ∧ a.block < X.heap.size):=fun a ha => by
     have h1 : (G2.pv n).ownBlock = some a.block:=by rw [hpv,ha];rfl
     have h2:=(own_tag (MX.out.pown n hnK) h1).ne MX.out.ptag (by decide)
     have h4:=(MX.out.og _ (MX.out.opv n a.block hnK h1)).2
     exact ⟨⟨by simpa [World.setCell] using h4,fun ho => h3o _ ho h1⟩,h2,h4⟩
   have HMB:=Lib.hid hmb
   have hmb20 : mb ≤ 1000000:=by
     have h1:=MX.out.pb n hnK
     have h2:=HWF.out.kb 4
     have h3 : (s1.setQ r).k 4 = s1.k 4:=rfl
     have h5 : ((s1.setQ r).pd n).length = (s1.pd n).length:=rfl
     omega
   clear CV FVb Cy Fy' hset MX' FX' hmb hpv h3o
   go_upto_region 5 with fail
   refine wp_named (fun Y => Mem p K w0 b O3 G3 Y (popS s1 n r) ∧ Fy K O1 O3 G2 G3 (s1.setQ r) (popS s1 n r) X Y ∧ (∀ a,Ab = some a → SafeB O3 Y a.block) ∧ Kept [K.pr] X Y) ⟨M3',F3',fun a ha => (HSB2.out a ha).1,(Kept.refl _ _).set K.pr n _ (.inl (by simp))⟩ ?_
   rintro Y ⟨MY',FY',hSY,hkXY⟩
   have MY:=Lib.hid MY'
   have FYY:=Lib.hid (FXX.out.trans FY')
   have HSY:=Lib.hid hSY
   have HPOP:=Lib.hid (HJ.out.pop s1 n r JV.out HQE.out)
   have HBC : Hid (∀ i (h : i < (s1.pd n).length),∃ bb,Ab = some ⟨bb,0,none⟩ ∧ Y.cell? ⟨bb,i * 2,none⟩ = some (.int .i64 ((s1.pd n)[i].1 : Nat)) ∧ Y.cell? ⟨bb,i * 2 + 1,none⟩ = some (.int .i64 ((s1.pd n)[i].2 : Nat))):=fun i h => by
     rcases OWN.out.2 with ⟨h1,h2⟩ | ⟨g',cap,cur,h1,_⟩
     · have:=HMB.out;omega
     · injection h1 with e1 e2 e3
       have h2:=HSB2.out _ e1
       obtain ⟨p1,p2⟩:=pcells_at (s1.pd n) h
       have q1:=OWN.out.cells (g:=g') (by rw [e1];rfl) _ _ p1
       have q2:=OWN.out.cells (g:=g') (by rw [e1];rfl) _ _ p2
       rw [add_lit,Nat.zero_add] at q1 q2
       exact ⟨g',e1,(hkXY.cell g' _ h2.2.2 (by simpa using h2.2.1)).trans q1,(hkXY.cell g' _ h2.2.2 (by simpa using h2.2.1)).trans q2⟩
   clear CX5 FX5 rP fP MY' FY' hSY hkXY M3' F3' HSB2 OWN MX FXX
   go_wp2_with fail
   go_loopw [40] (fun s40 wz => ∃ (i : Nat) (s2 : St) (O' : Nat → Prop) (G' : Gh),i ≤ mb ∧ s40 = .int .i64 i ∧ Hid (Mem p K w0 b O' G' wz s2) ∧ Hid (Fy K O O' G G' s s2 w wz) ∧ Hid (Fy K O3 O' G3 G' (popS s1 n r) s2 Y wz) ∧ Hid (J n ((s1.pd n).drop i) s2) ∧ Hid (mea p s2 ≤ mea p (popS s1 n r))) (fun s40 _ => mb - (intOf s40).toNat)
   case atStart => exact ⟨0,popS s1 n r,O3,G3,Nat.zero_le _,rfl,MY,FYY,Lib.hid (Fy.refl _ _ _ _ _),by rw [List.drop_zero];exact HPOP,Nat.le_refl _⟩
   case round =>
   clear MY FYY
   rename World => wz
   obtain ⟨i,s2,O4,G4,hi,rfl,MZ,FZ0,FZ,JZ,LZ⟩:=hrel
   by_cases hlt : i < mb
   · have hi' : i < (s1.pd n).length:=by rw [← HMB.out];exact hlt
     obtain ⟨bb,rfl,c1',c2'⟩:=HBC.out i hi'
     have hsb:=HSY.out _ rfl
     obtain ⟨a,d,had⟩ : ∃ a d,(s1.pd n)[i] = (a,d):=⟨_,_,rfl⟩
     rw [had] at c1' c2'
     replace c1':=(hsb.cell FZ.out.fx (i * 2)).trans c1'
     replace c2':=(hsb.cell FZ.out.fx (i * 2 + 1)).trans c2'
     have hbz:=(hsb.fx FZ.out.fx).1
     have hi1 : (i : Int) < (mb : Int):=by omega
     have HDR : Hid ((s1.pd n).drop i = (a,d) :: (s1.pd n).drop (i + 1)):=Lib.hid (by rw [List.drop_eq_getElem_cons hi',had])
     have HJJ : Hid (J n ((a,d) :: (s1.pd n).drop (i + 1)) s2):=Lib.hid (by have h1:=JZ.out;rw [HDR.out] at h1;exact h1)
     clear had
     go_upto_region 8 with fail
     refine wp_named (fun V => ∃ y,wz.heap.size = y ∧ Blk V y [.int .i64 a,.int .i64 d] ∧ Kept [] wz V) ⟨_,rfl,Blk.new _ _ _ _ rfl,(Kept.refl _ _).alloc _⟩ ?_
     rintro V7 ⟨y7,ey,By7,hkV7⟩
     rw [ey]
     have ⟨Ly7,Cy7,Fy7⟩:=By7
     have M7:=Lib.hid (MZ.out.kept hkV7)
     have F7:=Fy.kept K O4 G4 s2 hkV7
     have HDL : Hid (Calls Tryz.prog 81 #[.int .i64 n,.agg #[.int .i64 a,.int .i64 d],.pointer (some ⟨bs,0,none⟩)] V7 (GetD p K w0 b O4 G4 V7 s2 (J n ((s1.pd n).drop (i + 1))))):=HD.out V7 O4 G4 s2 n a d _ M7.out HJJ.out (HSB.out.blk (FZ0.out.trans F7).fx HBS.out) (HSB.out.fx (FZ0.out.trans F7).fx)
     clear c1' c2' ey
     go_wp2_with (go_at_call 81;refine HDL.out.mono ?_;rintro e w8 ⟨s8,O8,G8,rfl,M8,F8,J8,L8⟩)
     exact ⟨⟨i + 1,s8,O8,G8,by omega,by go_num,M8,FZ0.out.trans (F7.trans F8),FZ.out.trans (F7.trans F8),J8,Nat.le_trans L8 LZ.out⟩,by simp [intOf];omega⟩
   · obtain rfl : mb = i:=by omega
     have HJE : Hid (J n [] s2):=by have h1:=JZ.out;rw [HMB.out,List.drop_length] at h1;exact h1
     have hpop:=mea_pop (p:=p) HQE.out
     have hlm : PM (mea p s2) wz:=by
       rw [HPM.out]
       exact ⟨O4,G4,s2,MZ.out,FZ0.out,HJ.out.rest n s2 HJE.out,rfl⟩
     have hl2:=leastM_le hlm
     have HLM:=Lib.hid hlm
     have HL2:=Lib.hid hl2
     have HPP:=Lib.hid hpop
     clear hlm hl2 hpop
     go_wp2_with fail
     refine ⟨⟨_,HLM.out⟩,?_⟩
     have h1:=HL2.out;have h2:=LZ.out;have h3:=HPP.out;have h4:=HME.out;have h5:=HLV.out
     omega
theorem inv_dr (p : Vb) (T : Nat → Nat → Nat → D) : Dr p (InvV p T):=⟨fun _ _ _ h => h.good.wf,fun _ _ _ h hq => h.pop hq,fun _ _ h => h.rest0 0⟩
theorem drain2_ok {p : Vb} {T : Nat → Nat → Nat → D} {K : Kn} {w0 : World} {b bs : Nat} {O : Nat → Prop} {G : Gh} {s : St} (w : World) (hI : Inp p K w0) (ho : VOk p) (hf : VFit p) (hmu : mu0 p ≤ 1000000) (hm : Mem p K w0 b O G w s) (hj : InvV p T 0 [] s) (hbs : Blk w bs [.pointer (some ⟨b,0,none⟩)]) (hsb : SafeB O w bs) :
   Calls Tryz.prog 77 #[.pointer (some ⟨b,0,none⟩),.func (.func 81) #[] #[.pointer (some ⟨bs,0,none⟩)]] w (fun e w' => ∃ s' O' G',e = .returned (.tuple #[]) ∧ Mem p K w0 b O' G' w' s' ∧ Fy K O O' G G' s s' w w' ∧ InvV p T 0 [] s' ∧ s'.q = []) :=
 drain2_any w (InvV p T) (inv_dr p T) hI.nd.1.symm (If.sup_parts ho.sup).1 hmu hm hj hbs hsb (fun w9 O9 G9 s9 n a d rest hm9 hj9 hb9 hs9 => by
   have hr:=hj9.rst (a,d) (by simp)
   refine (deal2_any (T:=T) w9 n a d hI ho hf hmu hj9.good hm9 hr.1 hr.2 hb9 hs9).mono ?_
   rintro e w' ⟨s',O',G',he,hm',hf',hx',hd'⟩
   refine ⟨s',O',G',he,hm',hf',hj9.step hx'.gw hx'.good (fun k hk h2 hst q hq => ?_),hx'.mea⟩
   exact hd' k (mem_leavL.2 ⟨hk,h2,hst⟩) q hq)
set_option maxRecDepth 100000 in
set_option maxHeartbeats 10000000 in
theorem value_any {p : Vb} {K : Kn} {w0 : World} {b : Nat} {O : Nat → Prop} {G : Gh} {s : St} (w : World) (hI : Inp p K w0) (ho : VOk p) (hf : VFit p) (hmu : mu0 p ≤ 1000000) (hw : Wf p s) (hV : s.V = fun _ _ => topV) (hm : Mem p K w0 b O G w s) :
   Calls Tryz.prog 33 #[.pointer (some ⟨b,0,none⟩)] w (fun e w' => ∃ s' O' G',e = .returned (.tuple #[]) ∧ Mem p K w0 b O' G' w' s' ∧ Fy K O O' G G' s s' w w' ∧ GoodV p s.T s' ∧ VClo p s.T s'.V):=by
 have hmain:=If.main_in (If.sup_parts ho.sup).2.2.1
 obtain ⟨mN,hmN⟩:=Int.eq_ofNat_of_zero_le (show 0 ≤ p.mn by omega)
 have hmn : mN < p.ns.length:=by omega
 have hF0 : 0 < p.F.toNat:=by have:=ho.f1;omega
 have HMN : Hid (p.mn.toNat = mN):=by show _ = _;rw [hmN,Int.toNat_natCast]
 have HIV : Hid (InvV p s.T 0 [] (s.low mN 0 botV)):=by
   have h1:=initV (p:=p) hw rfl hV (by rw [hmN,Int.toNat_natCast];exact hmn) hF0
   rw [HMN.out] at h1
   exact h1
 have HM:=Lib.hid hm
 have HI:=Lib.hid hI
 have HO:=Lib.hid ho
 have HFI:=Lib.hid hf
 have HW:=Lib.hid hw
 have HMU:=Lib.hid hmu
 have HN1:=Lib.hid hI.nd.1.symm
 have HN2 : Hid (K.n1 ≤ 8192):=by have h1:=(If.sup_parts ho.sup).1;have h2:=hI.nd.1;show _ ≤ _;omega
 have HF2 : Hid (p.F ≤ 1024):=ho.f2
 have HMN2:=Lib.hid hmN
 clear hm hI ho hf hw hmu hV hmain hmN
 go_enter Tryz.func33,Tryz.ntmps33
 go_upto_region 1 with fail
 refine wp_named (fun W => ∃ b0,w.heap.size = b0 ∧ Blk W b0 [.pointer (some ⟨b,0,none⟩)] ∧ Below w.heap.size w W) ⟨_,rfl,?_,?_⟩ ?_
 · exact kbn
 · go_grown
 rintro W ⟨b0,e0,B0,hB⟩
 rw [e0]
 have G0 : w.heap.size ≤ b0:=by omega
 clear e0
 have ⟨L0,C0,F0⟩:=B0
 have hkW : Kept [] w W:=(Kept.refl _ _).call hB
 have MW:=Lib.hid (HM.out.kept hkW)
 have SS : Hid (SafeB O W b0):=HM.out.fresh G0 L0
 have HBS:=Lib.hid B0
 have BW:=MW.out.box
 unfold sbox at BW
 rw [HMN2.out] at BW
 have ⟨LW,CW,FW⟩:=BW
 have HLO : Hid (∀ w9,Kept [] W w9 → Calls Tryz.prog 80 #[.pointer (some ⟨b,0,none⟩),.int .i64 mN,.int .i64 0,.agg #[.int .i64 2,.int .i64 0]] w9 (fun e w' => ∃ O' G',e = .returned (.tuple #[]) ∧ Mem p K w0 b O' G' w' (s.low mN 0 botV) ∧ Fy K O O' G G' s (s.low mN 0 botV) W w')):=fun w9 hk9 =>
   (lower_any w9 mN 0 botV 2 0 rfl (MW.out.kept hk9) HW.out HN1.out HN2.out HF2.out HMU.out hmn hF0).mono (fun e w' h9 => h9.from hk9)
 refine wp_region_E 8 (fun w' => SX0 W w') (by kernel_rfl) (by (exact kp0)) (fun hHeld => ?_)
 refine WE_tk 0 ?_
 refine WE_tk 1 ?_
 refine WE_tk 2 ?_
 refine WE_tk 3 ?_
 refine WE_tk 4 ?_
 refine WE_tk 5 ?_
 refine WE_tk 6 ?_
 refine WE_tk 7 ?_
 refine WE_last rfl (by kernel_rfl) (fun K hK => ?_)
 go_simp
 (go_at_call 80;refine (HLO.out _ (by (exact kpt0))).mono ?_;rintro e w7 ⟨O7,G7,rfl,M7',F7⟩)
 (try go_wp2_with fail)
 refine hK.out _ _ ?_
 clear hK K
 have M7:=Lib.hid M7'
 have S7:=Lib.hid (SS.out.fx F7.fx)
 have HB7:=Lib.hid (SS.out.blk F7.fx HBS.out)
 have ⟨L7,C7,F7b⟩:=HB7.out
 have HDR : Hid (Calls Tryz.prog 77 #[.pointer (some ⟨b,0,none⟩),.func (.func 81) #[] #[.pointer (some ⟨b0,0,none⟩)]] w7 (fun e w' => ∃ s' O' G',e = .returned (.tuple #[]) ∧ Mem p K w0 b O' G' w' s' ∧ Fy K O7 O' G7 G' (s.low mN 0 botV) s' w7 w' ∧ InvV p s.T 0 [] s' ∧ s'.q = [])):=drain2_ok w7 HI.out HO.out HFI.out HMU.out M7.out HIV.out HB7.out S7.out
 clear CW FW C0 F0 M7'
 go_wp2_with (go_at_call 77;refine HDR.out.mono ?_;rintro e w9 ⟨s9,O9,G9,rfl,M9,F9,I9,Q9⟩)
 go_end0
 exact ⟨s9,O9,G9,rfl,M9,(Fy.kept K O G s hkW).trans (F7.trans F9),I9.good,I9.done Q9⟩
end Go.Proofs.YtincpmdldpakkaaGreatDoor
