/- Texts: Ca. -/
import Derived.Test.YtincpmdldpakkaaGreatDoorMt32
import Derived.Test.YtincpmdldpakkaaGreatDoorMt27
namespace Go.Proofs.YtincpmdldpakkaaGreatDoor
open Go.RowKit Go.Df Go.Df.Iv Go.Df.Sp
attribute [local go_sem ↓] Go.wp_at_zero Go.wp_at_succ
theorem vss_at {O : Nat → Prop} {w : World} {A : Option Addr} {m : Nat} {l : List Vs} (h : VssO O w A m l) {j : Nat} (hj : j < m) : ∃ (b5 o5 : Nat) (u : Vs),A = some ⟨b5,o5,none⟩ ∧ b5 < w.heap.size ∧ l[j]? = some u ∧ w.cell? ⟨b5,o5 + j * 4,none⟩ = some (.int .i64 u.n) ∧ w.cell? ⟨b5,o5 + j * 4 + 1,none⟩ = some (.int .i64 u.f) ∧ w.cell? ⟨b5,o5 + j * 4 + 2,none⟩ = some (.int .i64 u.k) ∧ w.cell? ⟨b5,o5 + j * 4 + 3,none⟩ = some (.int .i64 u.v):=by
 obtain ⟨b5,o5,e,hlt,hc⟩:=h.1.2 (by omega)
 have hj' : j < l.length:=by rw [h.1.1];exact hj
 have h1:=hc j hj
 rw [gs_lt hj'] at h1
 exact ⟨b5,o5,l[j],e,hlt,List.getElem?_eq_getElem hj',h1⟩
set_option maxRecDepth 100000 in
set_option maxHeartbeats 100000000 in
theorem step_any {p : Vb} {K : Kn} {w0 : World} {b : Nat} {O : Nat → Prop} {G : Gh} {s : St} (w : World) (n a d : Nat) (hI : Inp p K w0) (hgv : Gv w0) (ho : VOk p) (hf : VFit p) (hmu : mu0 p ≤ 1000000) (hg : Iv.Good p s) (hm : Mem p K w0 b O G w s) (hn : n < p.ns.length) (ha : a < p.F.toNat) (hd : d < p.F.toNat) (hxt : s.T n a d ≠ top) (hsdn : p.sd.length ≤ 1000000) :
   Calls Tryz.prog 79 #[.pointer (some ⟨b,0,none⟩),.int .i64 n,.int .i64 a,.int .i64 d] w (GetP p K w0 b O G w s fun t => Did p n a d (s.T n a d) t):=by
 have hF2 : p.F.toNat ≤ 1024:=by have:=ho.f2;omega
 have hE2 : p.es.length ≤ 32768:=(If.sup_parts ho.sup).2.1
 obtain ⟨x,hx⟩ : ∃ x,s.T n a d = x:=⟨_,rfl⟩
 rw [hx] at hxt ⊢
 obtain ⟨x0,hx0⟩ : ∃ v,x.1.k = v:=⟨_,rfl⟩
 obtain ⟨x1,hx1⟩ : ∃ v,x.1.b = v:=⟨_,rfl⟩
 obtain ⟨x2,hx2⟩ : ∃ v,x.1.c = v:=⟨_,rfl⟩
 have HXX : Hid (x.1 = ⟨x0,x1,x2⟩):=by show _ = _;rw [← hx0,← hx1,← hx2]
 have HSN : Hid (∀ Y,Clo p Y → le (Y n a d) x):=fun Y hY => by rw [← hx];exact hg.snd Y hY n a d
 have HXT:=Lib.hid hxt
 have HM:=Lib.hid hm
 have HG:=Lib.hid hg
 have HI:=Lib.hid hI
 have HGV:=Lib.hid hgv
 have HO:=Lib.hid ho
 have HFI:=Lib.hid hf
 have HMU:=Lib.hid hmu
 have HN1:=Lib.hid hI.nd.1.symm
 have HN2 : Hid (K.n1 ≤ 8192):=by have h1:=(If.sup_parts ho.sup).1;have h2:=hI.nd.1;show _ ≤ _;omega
 have HF2 : Hid (p.F ≤ 1024):=ho.f2
 have hn1 : n < K.n1:=by rw [HN1.out];exact hn
 have hn1' : (n : Int) < (K.n1 : Int):=by omega
 have HGX : Hid (Calls Tryz.prog 83 #[.agg #[.slice (some ⟨K.tr 0,0,none⟩) K.n1 K.n1],.int .i64 n,.agg #[.int .i64 (a : Int),.int .i64 (d : Int)]] w fun e w' => e = .returned (.agg #[.int .i64 x0,.int .i64 x1,.int .i64 x2]) ∧ Below w.heap.size w w'):=hm.getx hn1 (by omega) (by omega) (by rw [hx];exact HXX.out)
 have B0:=hm.box
 unfold sbox at B0
 have ⟨LB,CB,FB⟩:=B0
 clear hm hg hI hgv ho hf hmu hx hx0 hx1 hx2 hxt
 obtain ⟨ai,hai⟩ : ∃ v : Int,(a : Int) = v:=⟨_,rfl⟩
 obtain ⟨di,hdi⟩ : ∃ v : Int,(d : Int) = v:=⟨_,rfl⟩
 rw [hai,hdi] at HGX
 rw [hai,hdi]
 have HAI:=Lib.hid hai
 have HDI:=Lib.hid hdi
 clear hai hdi
 go_enter Tryz.func79,Tryz.ntmps79
 go_upto_region 1 with (go_at_call 83;refine HGX.out.mono ?_;rintro e w1 ⟨rfl,hb1⟩)
 refine wp_named (fun V => ∃ g,w1.heap.size = g ∧ Blk V g [.int .i64 x0,.int .i64 x1,.int .i64 x2] ∧ Kept [] w1 V) ⟨_,rfl,Blk.new _ _ _ _ rfl,(Kept.refl _ _).alloc _⟩ ?_
 rintro V0 ⟨gx0,eg,Bg,hkV0⟩
 rw [eg]
 have hkw : Kept [] w V0:=keptTrans ((Kept.refl _ _).call hb1) hkV0
 have M0:=Lib.hid (HM.out.kept hkw)
 have F0w : Hid (Fy K O O G G s s w V0):=Fy.kept K O G s hkw
 have SX : Hid (SafeB O V0 gx0):=HM.out.fresh (by have:=hb1.size;omega) Bg.1
 have HBX:=Lib.hid Bg
 have B0':=M0.out.box
 unfold sbox at B0'
 have ⟨LB0,CB0,FB0⟩:=B0'
 clear CB FB B0 LB eg Bg HGX HM
 rcases (by omega : (a = 0 ∧ d = 0) ∨ (a = 0 ∧ d ≠ 0) ∨ a ≠ 0) with hz | hz | hz
 · obtain ⟨rfl,rfl⟩:=hz
   obtain rfl : ai = 0:=by have:=HAI.out;omega
   obtain rfl : di = 0:=by have:=HDI.out;omega
   obtain ⟨A5,n5,c5,r5,hs5⟩:=M0.out.seeds.2 n hn1
   have hrs:=M0.out.seeds.1.1
   have HS5:=Lib.hid hs5
   have hn5 : n5 = (seedV p n).length:=hs5.1.1.symm
   have HN5:=Lib.hid hn5
   have hn5b : n5 ≤ 1000000:=by
     rw [hn5]
     exact Nat.le_trans (List.length_filter_le _ _) hsdn
   clear hs5 hn5
   go_upto_region 3 with fail
   go_loopw [36] (fun s36 wr => ∃ (j : Nat) (s1 : St) (O1 : Nat → Prop) (G1 : Gh),j ≤ n5 ∧ s36 = .int .i64 j ∧ Hid (Mem p K w0 b O1 G1 wr s1) ∧ Hid (Fy K O O1 G G1 s s1 V0 wr) ∧ Hid (Ex p s s1) ∧ Hid (∀ i,i < j → ∀ u,(seedV p n)[i]? = some u → le (s1.T n 0 u.f.toNat) (sx u))) (fun s36 _ => n5 - (intOf s36).toNat)
   case atStart => exact ⟨0,s,O,G,Nat.zero_le _,rfl,M0,Lib.hid (Fy.refl _ _ _ _ _),Ex.refl HG.out,fun i hi => absurd hi (Nat.not_lt_zero _)⟩
   case round =>
   clear CB0 FB0 B0' LB0 r5 hrs M0
   obtain ⟨j,s1,OT,GT,hj,rfl,MT,FT,EX1,DN⟩:=hrel
   rename World => wt
   by_cases hlt : j < n5
   · obtain ⟨b5,o5,u,rfl,hl5,hju,r50,r51,r52,r53⟩:=vss_at (HS5.out.fx FT.out.fx) hlt
     have hum : u ∈ seedV p n:=List.mem_of_getElem? hju
     have hup:=(mem_seedV.1 hum).1
     have hun:=(mem_seedV.1 hum).2
     have hsd:=HO.out.seed hup
     obtain ⟨f,hf⟩:=Int.eq_ofNat_of_zero_le (show 0 ≤ u.f by omega)
     rw [hf] at r51
     rw [hun] at r50
     have hfF : f < p.F.toNat:=by omega
     have hfi:=HFI.out.sd u hup
     have HSD:=Lib.hid (seed_snd hup hun HXT.out HSN.out)
     obtain ⟨uk,huk⟩ : ∃ v,u.k = v:=⟨_,rfl⟩
     obtain ⟨uv,huv⟩ : ∃ v,u.v = v:=⟨_,rfl⟩
     rw [huk] at r52
     rw [huv] at r53
     have hj1 : (j : Int) < (n5 : Int):=by omega
     have HJU:=Lib.hid hju
     have HUF:=Lib.hid hf
     have HUK:=Lib.hid huk
     have HUV:=Lib.hid huv
     have HFU:=Lib.hid hfi
     clear hju hum hup hun hsd hf huk huv hfi
     go_upto_region 5 with fail
     refine wp_named (fun V => ∃ g,wt.heap.size = g ∧ Blk V g [.int .i64 n,.int .i64 f,.int .i64 uk,.int .i64 uv] ∧ Kept [] wt V) ⟨_,rfl,Blk.new _ _ _ _ rfl,(Kept.refl _ _).alloc _⟩ ?_
     rintro V1 ⟨gu,eg,Bg,hkV1⟩
     rw [eg]
     have ⟨Lg,Cg,Fg⟩:=Bg
     have MV1:=Lib.hid (MT.out.kept hkV1)
     have FV1:=Lib.hid (FT.out.trans (Fy.kept K OT GT s1 hkV1))
     clear r50 r51 r52 r53 eg Bg MT FT
     have HIN : Hid (∀ y0 y1 y2,(sx u).1 = ⟨y0,y1,y2⟩ → Calls Tryz.prog 76 #[.pointer (some ⟨b,0,none⟩),.int .i64 n,.int .i64 0,.int .i64 f,.agg #[.int .i64 y0,.int .i64 y1,.int .i64 y2]] V1 (GetP p K w0 b OT GT V1 s1 fun t => le (t.T n 0 f) (sx u))):=fun y0 y1 y2 hy =>
       (include_any V1 n 0 f (sx u) y0 y1 y2 hy MV1.out EX1.out.good.wf HN1.out HN2.out HF2.out HMU.out hn ha hfF).mono (fun e w' h9 => h9.ex EX1.out.good hn ha hfF (by have h8:=HSD.out;rw [HUF.out,Int.toNat_natCast] at h8;exact h8))
     have HNX : Hid (∀ t,Ex p s1 t → le (t.T n 0 f) (sx u) → ∀ i,i < j + 1 → ∀ u',(seedV p n)[i]? = some u' → le (t.T n 0 u'.f.toNat) (sx u')):=fun t ht h9 i hi u' hu' => by
       rcases Nat.lt_or_ge i j with h1 | h1
       · exact le_trans (ht.gw.le _ _ _) (DN.out i h1 u' hu')
       · obtain rfl : i = j:=by omega
         rw [HJU.out] at hu'
         injection hu' with hu'
         rw [← hu',HUF.out,Int.toNat_natCast]
         exact h9
     by_cases h1 : uk = 1
     · have HI1:=Lib.hid (HIN.out 1 0 uv (by rw [← HUV.out];exact sx_const (HUK.out.trans h1) HFU.out))
       subst h1
       go_wp2_with (go_at_call 76;refine HI1.out.mono ?_;rintro e w9 ⟨s9,O9,G9,rfl,M9,F9,E9,D9⟩)
       exact ⟨⟨j + 1,s9,O9,G9,by omega,by go_num,M9,FV1.out.trans F9,EX1.out.trans E9,HNX.out s9 E9 D9⟩,by simp [intOf];omega⟩
     · by_cases h2 : uk = 2
       · have HI2:=Lib.hid (HIN.out 4 0 0 (sx_bot (HUK.out.trans h2)))
         subst h2
         go_wp2_with (go_at_call 76;refine HI2.out.mono ?_;rintro e w9 ⟨s9,O9,G9,rfl,M9,F9,E9,D9⟩)
         exact ⟨⟨j + 1,s9,O9,G9,by omega,by go_num,M9,FV1.out.trans F9,EX1.out.trans E9,HNX.out s9 E9 D9⟩,by simp [intOf];omega⟩
       · have h1' : (uk == 1) = false:=by simpa using h1
         have h2' : (uk == 2) = false:=by simpa using h2
         have HST : Hid (sx u = top):=sx_top (by rw [HUK.out];exact h1) (by rw [HUK.out];exact h2)
         clear h1 h2
         go_wp2_with fail
         exact ⟨⟨j + 1,s1,OT,GT,by omega,by go_num,MV1,FV1,EX1,HNX.out s1 (Ex.refl EX1.out.good) (by rw [HST.out];exact le_top _)⟩,by simp [intOf];omega⟩
   obtain rfl : j = n5:=by omega
   have DS : Hid (∀ u ∈ seedV p n,le (s1.T n 0 u.f.toNat) (sx u)):=fun u hu => by
     obtain ⟨i,hi,rfl⟩:=List.getElem_of_mem hu
     exact DN.out i (by rw [HN5.out];exact hi) _ (List.getElem?_eq_getElem hi)
   clear HS5 hlt HN5 DN
   have BT:=MT.out.box
   unfold sbox at BT
   have ⟨LT,CT,FTb⟩:=BT
   obtain ⟨A6,n6,c6,r6,hs6⟩:=MT.out.out.2 n hn1
   have hro:=MT.out.out.1.1
   have HS6:=Lib.hid hs6
   have hn6 : n6 = (If.outL (Iv.pf p) n).length:=by have:=hs6.1.1.1;rw [ofNats_len] at this;exact this.symm
   have hn6b : n6 ≤ 32768:=by
     have h1 : (If.outL (Iv.pf p) n).length ≤ (List.range p.es.length).length:=List.length_filter_le _ _
     rw [List.length_range] at h1
     omega
   have HN6:=Lib.hid hn6
   clear hs6 hn6
   go_wp2_with fail
   go_loopw [71] (fun s71 wr => ∃ (j : Nat) (s2 : St) (O2 : Nat → Prop) (G2 : Gh),j ≤ n6 ∧ s71 = .int .i64 j ∧ Hid (Mem p K w0 b O2 G2 wr s2) ∧ Hid (Fy K O O2 G G2 s s2 V0 wr) ∧ Hid (Fy K OT O2 GT G2 s1 s2 wt wr) ∧ Hid (Ex p s1 s2) ∧ Hid (∀ i,i < j → ∀ k,(If.outL (Iv.pf p) n)[i]? = some k → StE p k 0 0 x s2)) (fun s71 _ => n6 - (intOf s71).toNat)
   case atStart => exact ⟨0,s1,OT,GT,Nat.zero_le _,rfl,MT,FT,Lib.hid (Fy.refl _ _ _ _ _),Ex.refl EX1.out.good,fun i hi => absurd hi (Nat.not_lt_zero _)⟩
   case round =>
   rename World => wr
   clear MT FT CT FTb r6 hro
   obtain ⟨j,s2,O2,G2,hj,rfl,MR,FR,FR0,EX2,DN⟩:=hrel
   have BR:=MR.out.box
   unfold sbox at BR
   have ⟨LR,CR,FRb⟩:=BR
   have ⟨Lxr,Cxr,Fxr⟩:=SX.out.blk FR.out.fx HBX.out
   by_cases hlt : j < n6
   case neg =>
     obtain rfl : j = n6:=by omega
     have HOUT : Hid (∀ k ∈ If.outL (Iv.pf p) n,StE p k 0 0 x s2):=fun k hk => by
       obtain ⟨i,hi,rfl⟩:=List.getElem_of_mem hk
       exact DN.out i (by rw [HN6.out];exact hi) _ (List.getElem?_eq_getElem hi)
     obtain ⟨b1,o1,e1,hl1,hc1⟩:=HI.out.nd.2 (by omega)
     have q1 : wr.cell? ⟨b1,o1 + n * 3 + 1,none⟩ = some (.int .i64 (gn p.ns n).k):=(MR.out.low.cell (p:=⟨b1,_,none⟩) hl1).trans (hc1 n hn1).2.1
     have hl1r : b1 < wr.heap.size:=Nat.lt_of_lt_of_le hl1 MR.out.low.size
     obtain ⟨nk,hnk⟩ : ∃ nk,(gn p.ns n).k = nk:=⟨_,rfl⟩
     rw [hnk] at q1
     have HNK:=Lib.hid hnk
     have HLV : Hid (Calls Tryz.prog 140 #[.pointer (some ⟨b,0,none⟩),.int .i64 n,.int .i64 0,.int .i64 0,.agg #[.int .i64 x0,.int .i64 x1,.int .i64 x2]] wr (GetP p K w0 b O2 G2 wr s2 fun t => ∀ k ∈ If.callL (Iv.pf p) (If.stOf p.ns n),LvK p n 0 0 k x t)):=leave_any wr n 0 0 x x0 x1 x2 HXX.out HI.out HO.out HFI.out HMU.out EX2.out.good MR.out hn (by omega) HSN.out
     have HFIN : Hid (∀ t,Ex p s2 t → ((gn p.ns n).k = 3 ∨ (gn p.ns n).k = 4 → ∀ k ∈ If.callL (Iv.pf p) (If.stOf p.ns n),LvK p n 0 0 k x t) → Did p n 0 0 x t):=fun t ht h9 =>
       did_of HO.out hn (fun _ _ u hu => le_trans ((EX2.out.trans ht).gw.le _ _ _) (DS.out u hu)) (fun k hk => (HOUT.out k hk).mono ht.gw) h9
     clear hnk hc1 hl1
     by_cases h3 : nk = 3
     · subst h3
       go_wp2_with (go_at_call 140;refine HLV.out.mono ?_;rintro e w9 ⟨s9,O9,G9,rfl,M9,F9,E9,D9⟩)
       go_end0
       exact ⟨s9,O9,G9,rfl,M9,F0w.out.trans (FR.out.trans F9),EX1.out.trans (EX2.out.trans E9),HFIN.out s9 E9 (fun _ => D9)⟩
     · by_cases h4 : nk = 4
       · subst h4
         go_wp2_with (go_at_call 140;refine HLV.out.mono ?_;rintro e w9 ⟨s9,O9,G9,rfl,M9,F9,E9,D9⟩)
         go_end0
         exact ⟨s9,O9,G9,rfl,M9,F0w.out.trans (FR.out.trans F9),EX1.out.trans (EX2.out.trans E9),HFIN.out s9 E9 (fun _ => D9)⟩
       · have h3' : (nk == 3) = false:=by simpa using h3
         have h4' : (nk == 4) = false:=by simpa using h4
         have HK34 : Hid (¬ ((gn p.ns n).k = 3 ∨ (gn p.ns n).k = 4)):=by show ¬ _;rw [HNK.out];omega
         clear h3 h4
         go_wp2_with fail
         go_end0
         exact ⟨s2,O2,G2,rfl,MR.out,F0w.out.trans FR.out,EX1.out.trans EX2.out,HFIN.out s2 (Ex.refl EX2.out.good) (fun h9 => absurd h9 HK34.out)⟩
   obtain ⟨b6,o6,rfl,hl6,hj6,r6⟩:=sin_at (HS6.out.fx FR0.out.fx) hlt
   obtain ⟨k,hk⟩ : ∃ k,(If.outL (Iv.pf p) n)[j] = k:=⟨_,rfl⟩
   rw [hk] at r6
   have hkL : k ∈ If.outL (Iv.pf p) n:=by rw [← hk];exact List.getElem_mem hj6
   have HKJ : Hid ((If.outL (Iv.pf p) n)[j]? = some k):=by rw [← hk];exact List.getElem?_eq_getElem hj6
   have hke : k < p.es.length:=(If.outL_mem.1 hkL).1
   have HKA : Hid ((ge p.es k).a = (n : Int)):=(If.outL_mem.1 hkL).2
   have hj1 : (j : Int) < (n6 : Int):=by omega
   obtain ⟨b2,o2,ea,eb,e2,hl20,hl2,hk2,hea,heb,hea2,heb2,r2a,r2b,r2c,-⟩:=HI.out.edge HO.out MR.out.low hke
   obtain ⟨ek,hek⟩ : ∃ ek,(ge p.es k).k = ek:=⟨_,rfl⟩
   rw [hek] at r2c
   have HEK:=Lib.hid hek
   have HNX : Hid (∀ t,Ex p s2 t → StE p k 0 0 x t → ∀ i,i < j + 1 → ∀ k',(If.outL (Iv.pf p) n)[i]? = some k' → StE p k' 0 0 x t):=fun t ht h9 i hi k' hk' => by
     rcases Nat.lt_or_ge i j with h1 | h1
     · exact (DN.out i h1 k' hk').mono ht.gw
     · obtain rfl : i = j:=by omega
       rw [HKJ.out] at hk'
       injection hk' with hk'
       rw [← hk']
       exact h9
   have HSP : Hid (ek = 1 ∨ ek = 5 → Calls Tryz.prog 138 #[.pointer (some ⟨b,0,none⟩),.int .i64 k,.int .i64 0,.int .i64 0,.agg #[.int .i64 x0,.int .i64 x1,.int .i64 x2]] wr (GetP p K w0 b O2 G2 wr s2 fun t => ∀ q ∈ gl p.fl k,q.i = (0 : Nat) → le (t.T (ge p.es k).b.toNat 0 q.o.toNat) (comp x (xd q)))):=fun h15 =>
     spread_any wr k 0 0 x x0 x1 x2 HXX.out HI.out HO.out HFI.out HMU.out EX2.out.good MR.out hke ha (fun Y hY q hq hqi => by
       have h7:=hY.flow k hke (by rw [HEK.out];exact h15) q hq 0
       rw [HKA.out,hqi,Int.toNat_natCast,Int.toNat_natCast] at h7
       exact le_trans h7 (comp_mono (HSN.out Y hY) (le_refl _)))
   have HEN : Hid (ek = 2 → Calls Tryz.prog 139 #[.pointer (some ⟨b,0,none⟩),.int .i64 k,.int .i64 0,.int .i64 0,.agg #[.int .i64 x0,.int .i64 x1,.int .i64 x2]] wr (GetP p K w0 b O2 G2 wr s2 fun t => ∀ q ∈ gl p.fl k,q.i = (0 : Nat) → DnQ p k 0 x q t)):=fun h2 =>
     enter_any wr n k 0 0 x x0 x1 x2 HXX.out HI.out HGV.out HO.out HFI.out HMU.out EX2.out.good MR.out hke (by rw [HEK.out];exact h2) HKA.out ha HXT.out HSN.out
   clear hk hkL hea heb hek
   by_cases h1 : ek = 1
   · have HSP1:=Lib.hid (HSP.out (.inl h1))
     subst h1
     go_wp2_with (go_at_call 138;refine HSP1.out.mono ?_;rintro e w9 ⟨s9,O9,G9,rfl,M9,F9,E9,D9⟩)
     exact ⟨⟨j + 1,s9,O9,G9,by omega,by go_num,M9,FR.out.trans F9,FR0.out.trans F9,EX2.out.trans E9,HNX.out s9 E9 ⟨fun _ => D9,fun h9 => by rw [HEK.out] at h9;omega⟩⟩,by simp [intOf];omega⟩
   · by_cases h5 : ek = 5
     · have HSP1:=Lib.hid (HSP.out (.inr h5))
       subst h5
       go_wp2_with (go_at_call 138;refine HSP1.out.mono ?_;rintro e w9 ⟨s9,O9,G9,rfl,M9,F9,E9,D9⟩)
       exact ⟨⟨j + 1,s9,O9,G9,by omega,by go_num,M9,FR.out.trans F9,FR0.out.trans F9,EX2.out.trans E9,HNX.out s9 E9 ⟨fun _ => D9,fun h9 => by rw [HEK.out] at h9;omega⟩⟩,by simp [intOf];omega⟩
     · by_cases h2 : ek = 2
       · have HEN1:=Lib.hid (HEN.out h2)
         subst h2
         go_wp2_with (go_at_call 139;refine HEN1.out.mono ?_;rintro e w9 ⟨s9,O9,G9,rfl,M9,F9,E9,D9⟩)
         exact ⟨⟨j + 1,s9,O9,G9,by omega,by go_num,M9,FR.out.trans F9,FR0.out.trans F9,EX2.out.trans E9,HNX.out s9 E9 ⟨fun h9 => by rw [HEK.out] at h9;omega,fun _ => D9⟩⟩,by simp [intOf];omega⟩
       · have h1' : (ek == 1) = false:=by simpa using h1
         have h5' : (ek == 5) = false:=by simpa using h5
         have h2' : (ek == 2) = false:=by simpa using h2
         have HNO : Hid (StE p k 0 0 x s2):=⟨fun h9 => by rw [HEK.out] at h9;omega,fun h9 => by rw [HEK.out] at h9;omega⟩
         clear h1 h2 h5
         go_wp2_with fail
         exact ⟨⟨j + 1,s2,O2,G2,by omega,by go_num,MR,FR,FR0,EX2,HNX.out s2 (Ex.refl EX2.out.good) HNO.out⟩,by simp [intOf];omega⟩
 · obtain ⟨ha0,hd0⟩:=hz
   have HD0:=Lib.hid hd0
   subst ha0
   obtain rfl : ai = 0:=by have:=HAI.out;omega
   have hdi:=HDI.out
   subst hdi
   have z1 : ((d : Int) == 0) = false:=by simpa using hd0
   clear hd0
   have MT:=M0
   have FT : Hid (Fy K O O G G s s V0 V0):=Lib.hid (Fy.refl _ _ _ _ _)
   have EX1 : Hid (Ex p s s):=Ex.refl HG.out
   clear CB0 FB0 B0' LB0
   have BT:=MT.out.box
   unfold sbox at BT
   have ⟨LT,CT,FTb⟩:=BT
   obtain ⟨A6,n6,c6,r6,hs6⟩:=MT.out.out.2 n hn1
   have hro:=MT.out.out.1.1
   have HS6:=Lib.hid hs6
   have hn6 : n6 = (If.outL (Iv.pf p) n).length:=by have:=hs6.1.1.1;rw [ofNats_len] at this;exact this.symm
   have hn6b : n6 ≤ 32768:=by
     have h1 : (If.outL (Iv.pf p) n).length ≤ (List.range p.es.length).length:=List.length_filter_le _ _
     rw [List.length_range] at h1
     omega
   have HN6:=Lib.hid hn6
   clear hs6 hn6
   go_wp2_with fail
   go_loopw [71] (fun s71 wr => ∃ (j : Nat) (s2 : St) (O2 : Nat → Prop) (G2 : Gh),j ≤ n6 ∧ s71 = .int .i64 j ∧ Hid (Mem p K w0 b O2 G2 wr s2) ∧ Hid (Fy K O O2 G G2 s s2 V0 wr) ∧ Hid (Fy K O O2 G G2 s s2 V0 wr) ∧ Hid (Ex p s s2) ∧ Hid (∀ i,i < j → ∀ k,(If.outL (Iv.pf p) n)[i]? = some k → StE p k 0 d x s2)) (fun s71 _ => n6 - (intOf s71).toNat)
   case atStart => exact ⟨0,s,O,G,Nat.zero_le _,rfl,MT,FT,Lib.hid (Fy.refl _ _ _ _ _),Ex.refl EX1.out.good,fun i hi => absurd hi (Nat.not_lt_zero _)⟩
   case round =>
   rename World => wr
   clear MT FT CT FTb r6 hro
   obtain ⟨j,s2,O2,G2,hj,rfl,MR,FR,FR0,EX2,DN⟩:=hrel
   have BR:=MR.out.box
   unfold sbox at BR
   have ⟨LR,CR,FRb⟩:=BR
   have ⟨Lxr,Cxr,Fxr⟩:=SX.out.blk FR.out.fx HBX.out
   by_cases hlt : j < n6
   case neg =>
     obtain rfl : j = n6:=by omega
     have HOUT : Hid (∀ k ∈ If.outL (Iv.pf p) n,StE p k 0 d x s2):=fun k hk => by
       obtain ⟨i,hi,rfl⟩:=List.getElem_of_mem hk
       exact DN.out i (by rw [HN6.out];exact hi) _ (List.getElem?_eq_getElem hi)
     obtain ⟨b1,o1,e1,hl1,hc1⟩:=HI.out.nd.2 (by omega)
     have q1 : wr.cell? ⟨b1,o1 + n * 3 + 1,none⟩ = some (.int .i64 (gn p.ns n).k):=(MR.out.low.cell (p:=⟨b1,_,none⟩) hl1).trans (hc1 n hn1).2.1
     have hl1r : b1 < wr.heap.size:=Nat.lt_of_lt_of_le hl1 MR.out.low.size
     obtain ⟨nk,hnk⟩ : ∃ nk,(gn p.ns n).k = nk:=⟨_,rfl⟩
     rw [hnk] at q1
     have HNK:=Lib.hid hnk
     have HLV : Hid (Calls Tryz.prog 140 #[.pointer (some ⟨b,0,none⟩),.int .i64 n,.int .i64 0,.int .i64 d,.agg #[.int .i64 x0,.int .i64 x1,.int .i64 x2]] wr (GetP p K w0 b O2 G2 wr s2 fun t => ∀ k ∈ If.callL (Iv.pf p) (If.stOf p.ns n),LvK p n 0 d k x t)):=leave_any wr n 0 d x x0 x1 x2 HXX.out HI.out HO.out HFI.out HMU.out EX2.out.good MR.out hn (by omega) HSN.out
     have HFIN : Hid (∀ t,Ex p s2 t → ((gn p.ns n).k = 3 ∨ (gn p.ns n).k = 4 → ∀ k ∈ If.callL (Iv.pf p) (If.stOf p.ns n),LvK p n 0 d k x t) → Did p n 0 d x t):=fun t ht h9 =>
       did_of HO.out hn (fun _ h2 _ _ => absurd h2 HD0.out) (fun k hk => (HOUT.out k hk).mono ht.gw) h9
     clear hnk hc1 hl1
     by_cases h3 : nk = 3
     · subst h3
       go_wp2_with (go_at_call 140;refine HLV.out.mono ?_;rintro e w9 ⟨s9,O9,G9,rfl,M9,F9,E9,D9⟩)
       go_end0
       exact ⟨s9,O9,G9,rfl,M9,F0w.out.trans (FR.out.trans F9),EX1.out.trans (EX2.out.trans E9),HFIN.out s9 E9 (fun _ => D9)⟩
     · by_cases h4 : nk = 4
       · subst h4
         go_wp2_with (go_at_call 140;refine HLV.out.mono ?_;rintro e w9 ⟨s9,O9,G9,rfl,M9,F9,E9,D9⟩)
         go_end0
         exact ⟨s9,O9,G9,rfl,M9,F0w.out.trans (FR.out.trans F9),EX1.out.trans (EX2.out.trans E9),HFIN.out s9 E9 (fun _ => D9)⟩
       · have h3' : (nk == 3) = false:=by simpa using h3
         have h4' : (nk == 4) = false:=by simpa using h4
         have HK34 : Hid (¬ ((gn p.ns n).k = 3 ∨ (gn p.ns n).k = 4)):=by show ¬ _;rw [HNK.out];omega
         clear h3 h4
         go_wp2_with fail
         go_end0
         exact ⟨s2,O2,G2,rfl,MR.out,F0w.out.trans FR.out,EX1.out.trans EX2.out,HFIN.out s2 (Ex.refl EX2.out.good) (fun h9 => absurd h9 HK34.out)⟩
   obtain ⟨b6,o6,rfl,hl6,hj6,r6⟩:=sin_at (HS6.out.fx FR0.out.fx) hlt
   obtain ⟨k,hk⟩ : ∃ k,(If.outL (Iv.pf p) n)[j] = k:=⟨_,rfl⟩
   rw [hk] at r6
   have hkL : k ∈ If.outL (Iv.pf p) n:=by rw [← hk];exact List.getElem_mem hj6
   have HKJ : Hid ((If.outL (Iv.pf p) n)[j]? = some k):=by rw [← hk];exact List.getElem?_eq_getElem hj6
   have hke : k < p.es.length:=(If.outL_mem.1 hkL).1
   have HKA : Hid ((ge p.es k).a = (n : Int)):=(If.outL_mem.1 hkL).2
   have hj1 : (j : Int) < (n6 : Int):=by omega
   obtain ⟨b2,o2,ea,eb,e2,hl20,hl2,hk2,hea,heb,hea2,heb2,r2a,r2b,r2c,-⟩:=HI.out.edge HO.out MR.out.low hke
   obtain ⟨ek,hek⟩ : ∃ ek,(ge p.es k).k = ek:=⟨_,rfl⟩
   rw [hek] at r2c
   have HEK:=Lib.hid hek
   have HNX : Hid (∀ t,Ex p s2 t → StE p k 0 d x t → ∀ i,i < j + 1 → ∀ k',(If.outL (Iv.pf p) n)[i]? = some k' → StE p k' 0 d x t):=fun t ht h9 i hi k' hk' => by
     rcases Nat.lt_or_ge i j with h1 | h1
     · exact (DN.out i h1 k' hk').mono ht.gw
     · obtain rfl : i = j:=by omega
       rw [HKJ.out] at hk'
       injection hk' with hk'
       rw [← hk']
       exact h9
   have HSP : Hid (ek = 1 ∨ ek = 5 → Calls Tryz.prog 138 #[.pointer (some ⟨b,0,none⟩),.int .i64 k,.int .i64 0,.int .i64 d,.agg #[.int .i64 x0,.int .i64 x1,.int .i64 x2]] wr (GetP p K w0 b O2 G2 wr s2 fun t => ∀ q ∈ gl p.fl k,q.i = (d : Nat) → le (t.T (ge p.es k).b.toNat 0 q.o.toNat) (comp x (xd q)))):=fun h15 =>
     spread_any wr k 0 d x x0 x1 x2 HXX.out HI.out HO.out HFI.out HMU.out EX2.out.good MR.out hke ha (fun Y hY q hq hqi => by
       have h7:=hY.flow k hke (by rw [HEK.out];exact h15) q hq 0
       rw [HKA.out,hqi,Int.toNat_natCast,Int.toNat_natCast] at h7
       exact le_trans h7 (comp_mono (HSN.out Y hY) (le_refl _)))
   have HEN : Hid (ek = 2 → Calls Tryz.prog 139 #[.pointer (some ⟨b,0,none⟩),.int .i64 k,.int .i64 0,.int .i64 d,.agg #[.int .i64 x0,.int .i64 x1,.int .i64 x2]] wr (GetP p K w0 b O2 G2 wr s2 fun t => ∀ q ∈ gl p.fl k,q.i = (d : Nat) → DnQ p k 0 x q t)):=fun h2 =>
     enter_any wr n k 0 d x x0 x1 x2 HXX.out HI.out HGV.out HO.out HFI.out HMU.out EX2.out.good MR.out hke (by rw [HEK.out];exact h2) HKA.out ha HXT.out HSN.out
   clear hk hkL hea heb hek
   by_cases h1 : ek = 1
   · have HSP1:=Lib.hid (HSP.out (.inl h1))
     subst h1
     go_wp2_with (go_at_call 138;refine HSP1.out.mono ?_;rintro e w9 ⟨s9,O9,G9,rfl,M9,F9,E9,D9⟩)
     exact ⟨⟨j + 1,s9,O9,G9,by omega,by go_num,M9,FR.out.trans F9,FR0.out.trans F9,EX2.out.trans E9,HNX.out s9 E9 ⟨fun _ => D9,fun h9 => by rw [HEK.out] at h9;omega⟩⟩,by simp [intOf];omega⟩
   · by_cases h5 : ek = 5
     · have HSP1:=Lib.hid (HSP.out (.inr h5))
       subst h5
       go_wp2_with (go_at_call 138;refine HSP1.out.mono ?_;rintro e w9 ⟨s9,O9,G9,rfl,M9,F9,E9,D9⟩)
       exact ⟨⟨j + 1,s9,O9,G9,by omega,by go_num,M9,FR.out.trans F9,FR0.out.trans F9,EX2.out.trans E9,HNX.out s9 E9 ⟨fun _ => D9,fun h9 => by rw [HEK.out] at h9;omega⟩⟩,by simp [intOf];omega⟩
     · by_cases h2 : ek = 2
       · have HEN1:=Lib.hid (HEN.out h2)
         subst h2
         go_wp2_with (go_at_call 139;refine HEN1.out.mono ?_;rintro e w9 ⟨s9,O9,G9,rfl,M9,F9,E9,D9⟩)
         exact ⟨⟨j + 1,s9,O9,G9,by omega,by go_num,M9,FR.out.trans F9,FR0.out.trans F9,EX2.out.trans E9,HNX.out s9 E9 ⟨fun h9 => by rw [HEK.out] at h9;omega,fun _ => D9⟩⟩,by simp [intOf];omega⟩
       · have h1' : (ek == 1) = false:=by simpa using h1
         have h5' : (ek == 5) = false:=by simpa using h5
         have h2' : (ek == 2) = false:=by simpa using h2
         have HNO : Hid (StE p k 0 d x s2):=⟨fun h9 => by rw [HEK.out] at h9;omega,fun h9 => by rw [HEK.out] at h9;omega⟩
         clear h1 h2 h5
         go_wp2_with fail
         exact ⟨⟨j + 1,s2,O2,G2,by omega,by go_num,MR,FR,FR0,EX2,HNX.out s2 (Ex.refl EX2.out.good) HNO.out⟩,by simp [intOf];omega⟩
 · have HA0:=Lib.hid hz
   have hai:=HAI.out
   have hdi:=HDI.out
   subst hai hdi
   have z1 : ((a : Int) == 0) = false:=by simpa using hz
   clear hz
   have MT:=M0
   have FT : Hid (Fy K O O G G s s V0 V0):=Lib.hid (Fy.refl _ _ _ _ _)
   have EX1 : Hid (Ex p s s):=Ex.refl HG.out
   clear CB0 FB0 B0' LB0
   have BT:=MT.out.box
   unfold sbox at BT
   have ⟨LT,CT,FTb⟩:=BT
   obtain ⟨A6,n6,c6,r6,hs6⟩:=MT.out.out.2 n hn1
   have hro:=MT.out.out.1.1
   have HS6:=Lib.hid hs6
   have hn6 : n6 = (If.outL (Iv.pf p) n).length:=by have:=hs6.1.1.1;rw [ofNats_len] at this;exact this.symm
   have hn6b : n6 ≤ 32768:=by
     have h1 : (If.outL (Iv.pf p) n).length ≤ (List.range p.es.length).length:=List.length_filter_le _ _
     rw [List.length_range] at h1
     omega
   have HN6:=Lib.hid hn6
   clear hs6 hn6
   go_wp2_with fail
   go_loopw [71] (fun s71 wr => ∃ (j : Nat) (s2 : St) (O2 : Nat → Prop) (G2 : Gh),j ≤ n6 ∧ s71 = .int .i64 j ∧ Hid (Mem p K w0 b O2 G2 wr s2) ∧ Hid (Fy K O O2 G G2 s s2 V0 wr) ∧ Hid (Fy K O O2 G G2 s s2 V0 wr) ∧ Hid (Ex p s s2) ∧ Hid (∀ i,i < j → ∀ k,(If.outL (Iv.pf p) n)[i]? = some k → StE p k a d x s2)) (fun s71 _ => n6 - (intOf s71).toNat)
   case atStart => exact ⟨0,s,O,G,Nat.zero_le _,rfl,MT,FT,Lib.hid (Fy.refl _ _ _ _ _),Ex.refl EX1.out.good,fun i hi => absurd hi (Nat.not_lt_zero _)⟩
   case round =>
   rename World => wr
   clear MT FT CT FTb r6 hro
   obtain ⟨j,s2,O2,G2,hj,rfl,MR,FR,FR0,EX2,DN⟩:=hrel
   have BR:=MR.out.box
   unfold sbox at BR
   have ⟨LR,CR,FRb⟩:=BR
   have ⟨Lxr,Cxr,Fxr⟩:=SX.out.blk FR.out.fx HBX.out
   by_cases hlt : j < n6
   case neg =>
     obtain rfl : j = n6:=by omega
     have HOUT : Hid (∀ k ∈ If.outL (Iv.pf p) n,StE p k a d x s2):=fun k hk => by
       obtain ⟨i,hi,rfl⟩:=List.getElem_of_mem hk
       exact DN.out i (by rw [HN6.out];exact hi) _ (List.getElem?_eq_getElem hi)
     obtain ⟨b1,o1,e1,hl1,hc1⟩:=HI.out.nd.2 (by omega)
     have q1 : wr.cell? ⟨b1,o1 + n * 3 + 1,none⟩ = some (.int .i64 (gn p.ns n).k):=(MR.out.low.cell (p:=⟨b1,_,none⟩) hl1).trans (hc1 n hn1).2.1
     have hl1r : b1 < wr.heap.size:=Nat.lt_of_lt_of_le hl1 MR.out.low.size
     obtain ⟨nk,hnk⟩ : ∃ nk,(gn p.ns n).k = nk:=⟨_,rfl⟩
     rw [hnk] at q1
     have HNK:=Lib.hid hnk
     have HLV : Hid (Calls Tryz.prog 140 #[.pointer (some ⟨b,0,none⟩),.int .i64 n,.int .i64 a,.int .i64 d,.agg #[.int .i64 x0,.int .i64 x1,.int .i64 x2]] wr (GetP p K w0 b O2 G2 wr s2 fun t => ∀ k ∈ If.callL (Iv.pf p) (If.stOf p.ns n),LvK p n a d k x t)):=leave_any wr n a d x x0 x1 x2 HXX.out HI.out HO.out HFI.out HMU.out EX2.out.good MR.out hn (by omega) HSN.out
     have HFIN : Hid (∀ t,Ex p s2 t → ((gn p.ns n).k = 3 ∨ (gn p.ns n).k = 4 → ∀ k ∈ If.callL (Iv.pf p) (If.stOf p.ns n),LvK p n a d k x t) → Did p n a d x t):=fun t ht h9 =>
       did_of HO.out hn (fun h1 _ _ _ => absurd h1 HA0.out) (fun k hk => (HOUT.out k hk).mono ht.gw) h9
     clear hnk hc1 hl1
     by_cases h3 : nk = 3
     · subst h3
       go_wp2_with (go_at_call 140;refine HLV.out.mono ?_;rintro e w9 ⟨s9,O9,G9,rfl,M9,F9,E9,D9⟩)
       go_end0
       exact ⟨s9,O9,G9,rfl,M9,F0w.out.trans (FR.out.trans F9),EX1.out.trans (EX2.out.trans E9),HFIN.out s9 E9 (fun _ => D9)⟩
     · by_cases h4 : nk = 4
       · subst h4
         go_wp2_with (go_at_call 140;refine HLV.out.mono ?_;rintro e w9 ⟨s9,O9,G9,rfl,M9,F9,E9,D9⟩)
         go_end0
         exact ⟨s9,O9,G9,rfl,M9,F0w.out.trans (FR.out.trans F9),EX1.out.trans (EX2.out.trans E9),HFIN.out s9 E9 (fun _ => D9)⟩
       · have h3' : (nk == 3) = false:=by simpa using h3
         have h4' : (nk == 4) = false:=by simpa using h4
         have HK34 : Hid (¬ ((gn p.ns n).k = 3 ∨ (gn p.ns n).k = 4)):=by show ¬ _;rw [HNK.out];omega
         clear h3 h4
         go_wp2_with fail
         go_end0
         exact ⟨s2,O2,G2,rfl,MR.out,F0w.out.trans FR.out,EX1.out.trans EX2.out,HFIN.out s2 (Ex.refl EX2.out.good) (fun h9 => absurd h9 HK34.out)⟩
   obtain ⟨b6,o6,rfl,hl6,hj6,r6⟩:=sin_at (HS6.out.fx FR0.out.fx) hlt
   obtain ⟨k,hk⟩ : ∃ k,(If.outL (Iv.pf p) n)[j] = k:=⟨_,rfl⟩
   rw [hk] at r6
   have hkL : k ∈ If.outL (Iv.pf p) n:=by rw [← hk];exact List.getElem_mem hj6
   have HKJ : Hid ((If.outL (Iv.pf p) n)[j]? = some k):=by rw [← hk];exact List.getElem?_eq_getElem hj6
   have hke : k < p.es.length:=(If.outL_mem.1 hkL).1
   have HKA : Hid ((ge p.es k).a = (n : Int)):=(If.outL_mem.1 hkL).2
   have hj1 : (j : Int) < (n6 : Int):=by omega
   obtain ⟨b2,o2,ea,eb,e2,hl20,hl2,hk2,hea,heb,hea2,heb2,r2a,r2b,r2c,-⟩:=HI.out.edge HO.out MR.out.low hke
   obtain ⟨ek,hek⟩ : ∃ ek,(ge p.es k).k = ek:=⟨_,rfl⟩
   rw [hek] at r2c
   have HEK:=Lib.hid hek
   have HNX : Hid (∀ t,Ex p s2 t → StE p k a d x t → ∀ i,i < j + 1 → ∀ k',(If.outL (Iv.pf p) n)[i]? = some k' → StE p k' a d x t):=fun t ht h9 i hi k' hk' => by
     rcases Nat.lt_or_ge i j with h1 | h1
     · exact (DN.out i h1 k' hk').mono ht.gw
     · obtain rfl : i = j:=by omega
       rw [HKJ.out] at hk'
       injection hk' with hk'
       rw [← hk']
       exact h9
   have HSP : Hid (ek = 1 ∨ ek = 5 → Calls Tryz.prog 138 #[.pointer (some ⟨b,0,none⟩),.int .i64 k,.int .i64 a,.int .i64 d,.agg #[.int .i64 x0,.int .i64 x1,.int .i64 x2]] wr (GetP p K w0 b O2 G2 wr s2 fun t => ∀ q ∈ gl p.fl k,q.i = (d : Nat) → le (t.T (ge p.es k).b.toNat a q.o.toNat) (comp x (xd q)))):=fun h15 =>
     spread_any wr k a d x x0 x1 x2 HXX.out HI.out HO.out HFI.out HMU.out EX2.out.good MR.out hke ha (fun Y hY q hq hqi => by
       have h7:=hY.flow k hke (by rw [HEK.out];exact h15) q hq a
       rw [HKA.out,hqi,Int.toNat_natCast,Int.toNat_natCast] at h7
       exact le_trans h7 (comp_mono (HSN.out Y hY) (le_refl _)))
   have HEN : Hid (ek = 2 → Calls Tryz.prog 139 #[.pointer (some ⟨b,0,none⟩),.int .i64 k,.int .i64 a,.int .i64 d,.agg #[.int .i64 x0,.int .i64 x1,.int .i64 x2]] wr (GetP p K w0 b O2 G2 wr s2 fun t => ∀ q ∈ gl p.fl k,q.i = (d : Nat) → DnQ p k a x q t)):=fun h2 =>
     enter_any wr n k a d x x0 x1 x2 HXX.out HI.out HGV.out HO.out HFI.out HMU.out EX2.out.good MR.out hke (by rw [HEK.out];exact h2) HKA.out ha HXT.out HSN.out
   clear hk hkL hea heb hek
   by_cases h1 : ek = 1
   · have HSP1:=Lib.hid (HSP.out (.inl h1))
     subst h1
     go_wp2_with (go_at_call 138;refine HSP1.out.mono ?_;rintro e w9 ⟨s9,O9,G9,rfl,M9,F9,E9,D9⟩)
     exact ⟨⟨j + 1,s9,O9,G9,by omega,by go_num,M9,FR.out.trans F9,FR0.out.trans F9,EX2.out.trans E9,HNX.out s9 E9 ⟨fun _ => D9,fun h9 => by rw [HEK.out] at h9;omega⟩⟩,by simp [intOf];omega⟩
   · by_cases h5 : ek = 5
     · have HSP1:=Lib.hid (HSP.out (.inr h5))
       subst h5
       go_wp2_with (go_at_call 138;refine HSP1.out.mono ?_;rintro e w9 ⟨s9,O9,G9,rfl,M9,F9,E9,D9⟩)
       exact ⟨⟨j + 1,s9,O9,G9,by omega,by go_num,M9,FR.out.trans F9,FR0.out.trans F9,EX2.out.trans E9,HNX.out s9 E9 ⟨fun _ => D9,fun h9 => by rw [HEK.out] at h9;omega⟩⟩,by simp [intOf];omega⟩
     · by_cases h2 : ek = 2
       · have HEN1:=Lib.hid (HEN.out h2)
         subst h2
         go_wp2_with (go_at_call 139;refine HEN1.out.mono ?_;rintro e w9 ⟨s9,O9,G9,rfl,M9,F9,E9,D9⟩)
         exact ⟨⟨j + 1,s9,O9,G9,by omega,by go_num,M9,FR.out.trans F9,FR0.out.trans F9,EX2.out.trans E9,HNX.out s9 E9 ⟨fun h9 => by rw [HEK.out] at h9;omega,fun _ => D9⟩⟩,by simp [intOf];omega⟩
       · have h1' : (ek == 1) = false:=by simpa using h1
         have h5' : (ek == 5) = false:=by simpa using h5
         have h2' : (ek == 2) = false:=by simpa using h2
         have HNO : Hid (StE p k a d x s2):=⟨fun h9 => by rw [HEK.out] at h9;omega,fun h9 => by rw [HEK.out] at h9;omega⟩
         clear h1 h2 h5
         go_wp2_with fail
         exact ⟨⟨j + 1,s2,O2,G2,by omega,by go_num,MR,FR,FR0,EX2,HNX.out s2 (Ex.refl EX2.out.good) HNO.out⟩,by simp [intOf];omega⟩
end Go.Proofs.YtincpmdldpakkaaGreatDoor
