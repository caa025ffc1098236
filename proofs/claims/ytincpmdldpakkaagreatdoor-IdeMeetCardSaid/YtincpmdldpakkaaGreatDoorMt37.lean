/- Texts: As Ax. -/
import Derived.Test.YtincpmdldpakkaaGreatDoorMt34
import Derived.Test.YtincpmdldpakkaaGreatDoorMt35
import Derived.Test.YtincpmdldpakkaaGreatDoorMt36
import Derived.Test.YtincpmdldpakkaaGreatDoorMt28
import Derived.Test.YtincpmdldpakkaaGreatDoorMt29
namespace Go.Df
open Go.RowKit
abbrev SXq (X : List Nat) (ga gb gc gd : Nat) (W w' : World) : Prop:=Kept X W w' ∧ (∀ o,w'.cell? ⟨ga,o,none⟩ = W.cell? ⟨ga,o,none⟩) ∧ (∀ o,w'.cell? ⟨gb,o,none⟩ = W.cell? ⟨gb,o,none⟩) ∧ (∀ o,w'.cell? ⟨gc,o,none⟩ = W.cell? ⟨gc,o,none⟩) ∧ (∀ o,w'.cell? ⟨gd,o,none⟩ = W.cell? ⟨gd,o,none⟩)
theorem SXq.of {X : List Nat} {ga gb gc gd : Nat} {W w' : World} (h : Kept X W w') (ha : ga < W.heap.size) (hb : gb < W.heap.size) (hc : gc < W.heap.size) (hd : gd < W.heap.size) (xa : ga ∉ X) (xb : gb ∉ X) (xc : gc ∉ X) (xd : gd ∉ X) : SXq X ga gb gc gd W w' :=
 ⟨h,fun o => h.cell ga o ha xa,fun o => h.cell gb o hb xb,fun o => h.cell gc o hc xc,fun o => h.cell gd o hd xd⟩
theorem retNamed9 {P : Program} {f : Func} {Q : Ending → World → Prop} {e : Exit} {a : Act} {w : World} (S : World → Prop) (h0 : S w) (h : ∀ X,S X → bodyPost P f Q e a X) : bodyPost P f Q e a w:=h w h0
end Go.Df
namespace Go.Proofs.YtincpmdldpakkaaGreatDoor
open Go.RowKit Go.Df Go.Df.Iv Go.Df.Sp
attribute [local go_sem ↓] Go.wp_at_zero Go.wp_at_succ
theorem Tryz.invPair : ∀ key kl,keyOf Tryz.prog 101 key = some kl → ∃ x y,key = .agg #[.int .i64 x,.int .i64 y] ∧ (Lit.int .i64 x).wf = true ∧ (Lit.int .i64 y).wf = true:=fun _ _ h =>
 keyOf_two_inv Tryz.fieldsPair Tryz.cellsPair Tryz.undInt Tryz.cellsInt Tryz.rowPair h
set_option maxRecDepth 100000 in
set_option maxHeartbeats 20000000 in
theorem psolve_ok {p : Vb} {K0 : Kn} (w : World) (mN f : Nat) (hI : Inp p K0 w) (hgv : Gv w) (ho : VOk p) (hfit : VFit p) (hmn : p.mn = (mN : Int)) (hF : p.F = (f : Int)) (hn4 : K0.n4 ≤ 1000000) (hmu : mu0 p ≤ 1000000)
   (hchk : ∀ w1,Below w.heap.size w w1 → Calls Tryz.prog 31 #[.agg #[.slice K0.A1 K0.n1 K0.c1,.slice K0.A2 K0.n2 K0.c2,.int .i64 (mN : Nat),.int .i64 (f : Nat),.slice K0.A3 K0.n3 K0.c3,.slice K0.A4 K0.n4 K0.c4]] w1 fun e w' => e = .returned (.int .i64 0) ∧ Below w1.heap.size w1 w') :
   Calls Tryz.prog 10 #[.agg #[.slice K0.A1 K0.n1 K0.c1,.slice K0.A2 K0.n2 K0.c2,.int .i64 (mN : Nat),.int .i64 (f : Nat),.slice K0.A3 K0.n3 K0.c3,.slice K0.A4 K0.n4 K0.c4]] w (GetU p K0.n1 f w):=by
 obtain ⟨i0,hi,hz0,hz1,hz2⟩:=info_parts val_info9
 obtain ⟨j0,ji,jz0,jz1,jz2⟩:=info_parts rowv_info
 obtain ⟨MV,hMV⟩ : ∃ M,(List.replicate (f * 2) (Value.int .i64 0)).toArray = M:=⟨_,rfl⟩
 obtain ⟨MR,hMR⟩ : ∃ M,(List.replicate K0.n1 (Value.slice none 0 0)).toArray = M:=⟨_,rfl⟩
 have hN1 : K0.n1 = p.ns.length:=hI.nd.1.symm
 have hN8 : K0.n1 ≤ 8192:=by have:=(If.sup_parts ho.sup).1;omega
 have hf8 : f ≤ 1024:=by have:=ho.f2;omega
 have hmkV:=fun w => run_make2 (P:=Tryz.prog) Tryz.underlying39 hi hz0 hz1 hz2 rfl f (by omega) (by omega) MV hMV w
 have hmkR:=fun w => run_make1 (P:=Tryz.prog) Tryz.underlying34 ji jz0 jz1 jz2 rfl K0.n1 (by omega) (by omega) MR hMR w
 have HMV:=Lib.hid hMV
 have HMR:=Lib.hid hMR
 have HI:=Lib.hid hI
 have HGV:=Lib.hid hgv
 have HO:=Lib.hid ho
 have HFI:=Lib.hid hfit
 have HMN:=Lib.hid hmn
 have HEF:=Lib.hid hF
 have HFE : Hid (p.F.toNat = f):=by show _ = _;rw [hF,Int.toNat_natCast]
 have HEN:=Lib.hid hN1
 have HMU:=Lib.hid hmu
 have HCHK:=Lib.hid hchk
 clear hMV hMR hI hgv ho hfit hmn hF hN1 hmu hchk
 go_enter Tryz.func10,Tryz.ntmps10
 go_upto_region 1 with fail
 refine wp_named (fun W => ∃ b0 b1,w.heap.size = b0 ∧ w.heap.size + 1 = b1 ∧ Blk W b0 [.slice K0.A1 K0.n1 K0.c1,.slice K0.A2 K0.n2 K0.c2,.int .i64 (mN : Nat),.int .i64 (f : Nat),.slice K0.A3 K0.n3 K0.c3,.slice K0.A4 K0.n4 K0.c4] ∧ Blk W b1 [.slice none 0 0] ∧ Below w.heap.size w W) ⟨_,_,rfl,rfl,?_,?_,?_⟩ ?_
 · exact (Blk.new _ _ _ _ (by first | rfl | simp)).alloc _
 · exact kbn
 · go_grown
 rintro W ⟨b0,b1,e0,e1,B0,B1,hB⟩
 rw [e1,e0]
 have G0 : w.heap.size ≤ b0:=by omega
 have n01 : b0 ≠ b1:=by omega
 have G1 : w.heap.size ≤ b1:=by omega
 have n10 : b1 ≠ b0:=by omega
 clear e0 e1
 have ⟨L0,C0,F0⟩:=B0
 have ⟨L1,C1,F1⟩:=B1
 go_upto_region 2 with (go_at_call 31;refine (HCHK.out _ hB).mono ?_;rintro e w1 ⟨rfl,hb1⟩)
 have hkw1 : Kept [] w w1:=((Kept.refl _ _).call hB).call hb1
 have HB0:=Lib.hid (B0.later hb1)
 have HB1:=Lib.hid (B1.later hb1)
 have ⟨L01,C01,F01⟩:=HB0.out
 have HTB : Hid (Calls Tryz.prog 32 #[.agg #[.slice K0.A1 K0.n1 K0.c1,.slice K0.A2 K0.n2 K0.c2,.int .i64 (mN : Nat),.int .i64 (f : Nat),.slice K0.A3 K0.n3 K0.c3,.slice K0.A4 K0.n4 K0.c4]] w1 (GetTb p K0 w1)):=tab_any w1 mN f (HI.out.kept9 hkw1) (HGV.out.later hkw1.toBelow) HO.out HFI.out HMN.out HEF.out hn4 HMU.out
 clear C0 F0 C1 F1
 go_upto_region 5 with (go_at_call 32;refine HTB.out.mono ?_;rintro e w2 ⟨w0,KZ,g,O,G,s,rfl,hb0,hI2,hM2,hT2,hq2,ek⟩)
 have HT2:=Lib.hid hT2
 have HQ2:=Lib.hid hq2
 have hk10 : Kept [] w1 w0:=(Kept.refl _ _).call hb0
 have hkw2 : Kept [] w1 w2:=hk10.call hM2.low
 have HVA:=Lib.hid (value_any w2 hI2 HO.out HFI.out HMU.out hT2.1.good.wf hT2.2 hM2)
 clear hM2 hT2 hq2 hI2
 go_upto_region 6 with (go_at_call 33;refine HVA.out.mono ?_;rintro e w3 ⟨s3,O3,G3,rfl,hM3,-,hG3,hV3⟩)
 have HSOL:=Lib.hid (sol_is HT2.out HQ2.out hG3 hV3)
 have HRNG : Hid (∀ n a d,s.T n a d ≠ top → a < f ∧ d < f):=Lib.hid (fun n a d h => by have h9:=HT2.out.1.good.wf.rng n a d h;rw [HFE.out] at h9;exact h9.2)
 have HET : Hid (s3.T = s.T):=Lib.hid hG3.eT
 have HM:=Lib.hid hM3
 have hkw3 : Kept [] w1 w3:=hk10.call hM3.low
 have HK03 : Hid (Kept [] w w3):=Lib.hid (keptTrans hkw1 hkw3)
 have HB03:=Lib.hid (hkw3.blk (by simp) HB0.out)
 have HB13:=Lib.hid (hkw3.blk (by simp) HB1.out)
 have ⟨L03,C03,F03⟩:=HB03.out
 clear C01 F01 hM3 hG3 hV3 HVA HTB
 go_upto_region 7 with fail
 refine wp_named (fun V => ∃ gr g7,w3.heap.size = gr ∧ w3.heap.size + 1 = g7 ∧ Blk V g7 [.slice (some ⟨gr,0,none⟩) K0.n1 K0.n1] ∧ V.heap[gr]? = some (.cells MR 39 (0,0)) ∧ Kept [] w3 V) ⟨_,_,rfl,rfl,?_,?_,?_⟩ ?_
 · refine Blk.new _ _ _ _ ?_
   simp
 · refine ((((Kept.refl [] _).alloc _).block w3.heap.size ?_ ?_).trans (heap_alloc_new _ _)) <;> simp
 · exact ((Kept.refl [] w3).alloc _).alloc _
 rintro V ⟨gr,g7,egr,eg7,BV7,HR0,hkV⟩
 rw [eg7,egr]
 have hne7 : gr ≠ g7:=by omega
 have hne7':=hne7
 have hgr3 : w3.heap.size ≤ gr:=by omega
 have hg73 : w3.heap.size ≤ g7:=by omega
 have hbV : Hid (Below w3.heap.size w3 V):=Lib.hid hkV.toBelow
 have HB7:=Lib.hid BV7
 have hgrV : gr < V.heap.size:=(Array.getElem?_eq_some_iff.1 HR0).1
 obtain ⟨base,hbase⟩ : ∃ base,V.heap.size = base:=⟨_,rfl⟩
 have VO0 : Hid (Vo K0.n1 f 0 base V gr (fun _ => 0) (solV p s.T s3.V)):=Lib.hid ⟨hgrV,by omega,fun x => by simp [World.frozen?,HR0],fun n hn => absurd hn (Nat.not_lt_zero n),fun x _ hx => by
   have h9:=rep_at (v:=Value.slice none 0 0) hx
   rw [HMR.out] at h9
   simpa [World.cell?,HR0] using h9,fun n hn => absurd hn (Nat.not_lt_zero n),fun n hn => absurd hn (Nat.not_lt_zero n),fun n m hn => absurd hn (Nat.not_lt_zero n)⟩
 have hVb : base ≤ V.heap.size:=by omega
 have h3b : w3.heap.size ≤ base:=by have:=hkV.size;omega
 have hb13 : b1 < w3.heap.size:=HB13.out.1
 clear BV7 HR0 hkV hmkR hne7 hbase hgrV C03 F03 egr eg7
 have ⟨L7v,C7v,F7v⟩:=HB7.out
 go_wp2_with fail
 clear L7v C7v F7v
 go_loopw [31] (fun s31 wr => ∃ (i : Nat) (rw : Nat → Nat),i ≤ K0.n1 ∧ s31 = .int .i64 i ∧ Hid (Below w3.heap.size w3 wr) ∧ Hid (Blk wr g7 [.slice (some ⟨gr,0,none⟩) K0.n1 K0.n1]) ∧ Hid (Vo K0.n1 f i base wr gr rw (solV p s.T s3.V)) ∧ base ≤ wr.heap.size) (fun s31 _ => K0.n1 - (intOf s31).toNat)
 case atStart => exact ⟨0,_,Nat.zero_le _,rfl,hbV,HB7,VO0,hVb⟩
 case round =>
 clear VO0 HB7 hbV
 obtain ⟨i,rw,hi9,rfl,hbr,HB7,VO,hbz⟩:=hrel
 have hkr3 : Kept [] w3 wr:=(Kept.refl _ _).call hbr.out
 by_cases hlt : i < K0.n1
 case neg =>
   obtain rfl : i = K0.n1:=by omega
   have ⟨L7,C7,F7⟩:=HB7.out
   have ⟨L1r,C1r,F1r⟩:=hkr3.blk (by simp) HB13.out
   have hbw : Below w.heap.size w wr:=HK03.out.toBelow.trans (hbr.out.mono HK03.out.size)
   have hne1 : b1 ≠ g7:=by omega
   go_wp2_with fail
   refine retNamed9 (fun X => Blk X b1 [.slice (some ⟨gr,0,none⟩) K0.n1 K0.n1] ∧ Kept [b1] wr X) ⟨(hkr3.blk (by simp) HB13.out).set 0 _,(Kept.refl [b1] wr).set b1 0 _ (.inl (by simp))⟩ ?_
   rintro X ⟨BX,hkX⟩
   have ⟨LX,CX,FX⟩:=BX
   have VX:=VO.out.kept hkX (by have:=hgr3;simp;omega) (fun n hn => by have:=VO.out.rb n hn;simp;omega)
   refine bodyPost_ret (by simp [results,Tryz.results10,go_sem,CX];try rfl) rfl ?_
   exact ⟨gr,K0.n1,rw,fun _ => f,_,rfl,VX.vw,HSOL.out,hkX.below hbw hbw.size (by simpa using G1)⟩
 have ⟨L0r,C0r,F0r⟩:=hkr3.blk (by simp) HB03.out
 have MR3:=Lib.hid (HM.out.call hbr.out)
 have BGR:=MR3.out.box
 unfold sbox at BGR
 have ⟨LGR,CGR,FGR⟩:=BGR
 have hi1 : (i : Int) < (KZ.n1 : Int):=by omega
 have hiK : i < KZ.n1:=by omega
 have chr:=MR3.out.tj.cell hiK
 have lhr : KZ.tr 0 < wr.heap.size:=MR3.out.tj.rtag.lt
 obtain ⟨mm,hmm⟩ : ∃ mm,G3.m 0 i = mm:=⟨_,rfl⟩
 rw [hmm] at chr
 have HMM:=Lib.hid hmm
 obtain ⟨g8,eg8⟩ : ∃ g,wr.heap.size = g:=⟨_,rfl⟩
 have HG8:=Lib.hid eg8
 obtain ⟨r,er⟩ : ∃ r,wr.heap.size + 1 = r:=⟨_,rfl⟩
 have HER:=Lib.hid er
 clear hmm eg8 er
 have hkA : Kept [] wr (wr.alloc (.cells MV 46)):=(Kept.refl _ _).alloc _
 have MA:=Lib.hid (MR3.out.kept hkA)
 go_upto_region 12 with (at_range;refine wpList_range_mapO (P:=Tryz.prog) (k:=101) (z:=.agg #[.int .i64 0,.int .i64 0,.int .i64 0]) (n:=G3.c 0 i) (f:=G3.jv i) rfl _ _ rfl 71 Tryz.lawPair Tryz.mapPX mm rfl (fun b hb => MA.out.tj.is i b hiK (HMM.out.trans hb)) (fun hn key => MA.out.tj.no i hiK (HMM.out.trans hn) key) ?_;intro w4 left cnt hrg hleft hk4 hs4)
 have er2 : (wr.alloc (.cells MV 46)).heap.size = r:=by rw [← HER.out];simp
 rw [er2] at hrg hs4 ⊢
 rw [HG8.out]
 have hkr4 : Kept [] wr w4:=keptTrans hkA hk4
 have h8 : w4.heap[g8]? = some (.cells MV 46 (0,0)):=by rw [← HG8.out];exact (hk4.block _ (by simp) (by simp)).trans (heap_alloc_new _ _)
 have VR4 : Hid (Vr w4 g8 f (fun _ => topV)):=Lib.hid (Vr.made h8 HMV.out)
 have HRG:=Lib.hid hrg
 have HGR0 : Hid (Gr p s.T s3.V i f (Came Tryz.prog 101 left) (fun _ => topV)):=Lib.hid (Gr.init (fun a d ⟨kl,hk9,hl9⟩ => by
   have e1:=hleft _ _ hk9 hl9
   rw [HM.out.hj i a d hiK,HET.out] at e1
   exact xv_inj e1))
 have HMB : Hid (∀ b,mm = some b → b < w3.heap.size):=Lib.hid (fun b hb => (HM.out.og b (HM.out.om 0 i b (by omega) hiK (HMM.out.trans hb))).2)
 have HB74:=Lib.hid (hkr4.blk (by simp) HB7.out)
 have VO4:=Lib.hid (VO.out.kept hkr4 (by simp) (by simp))
 have HB34 : Hid (Kept [] w3 w4):=Lib.hid (keptTrans hkr3 hkr4)
 have hg8r : g8 < r:=by have h1:=HG8.out;have h2:=HER.out;omega
 have hr4 : r < w4.heap.size:=by omega
 have hg83 : w3.heap.size ≤ g8:=by have h1:=HG8.out;have h2:=hkr3.size;omega
 have hg8b : base ≤ g8:=by have h1:=HG8.out;omega
 have hg7n : g7 ∉ [r,g8]:=by have h1:=HB7.out.1;have h2:=HG8.out;simp;omega
 have hgrn : gr ∉ [r,g8]:=by have h1:=VO.out.glt;have h2:=HG8.out;simp;omega
 have HRWN : Hid (∀ n,n < i → rw n ∉ [r,g8]):=Lib.hid (fun n hn => by have h1:=(VO.out.r n hn).1;have h2:=HG8.out;simp;omega)
 clear hrg hleft hk4 hs4 hkA h8 er2 CGR FGR LGR chr lhr MA MR3 C0r F0r L0r HB7 VO hkr4 hbr hkr3 HG8 HER hmkV
 have stlt : If.stOf p.ns i < K0.n1:=by have:=If.stOf_le p.ns i;omega
 go_wp2_with fail
 go_frame
 go_loopw [9] (fun _ wq => ∃ (left : Lit → Bool) (cnt : Nat) (v : Nat → U),Hid (Vr wq g8 f v) ∧ Hid (Gr p s.T s3.V i f (Came Tryz.prog 101 left) v) ∧ Hid (RgO Tryz.prog 101 (.agg #[.int .i64 0,.int .i64 0,.int .i64 0]) wq mm r (G3.c 0 i) (G3.jv i) left cnt) ∧ Hid (Kept [r,g8] w4 wq)) (fun _ wq => leftO wq mm r)
 case atStart => exact ⟨left,cnt,_,VR4,HGR0,HRG,Lib.hid (Kept.refl _ _)⟩
 case round =>
 clear VR4 HGR0 HRG
 rename World => wq
 obtain ⟨left,cnt,v,VR,HGR,HRG,HKQ⟩:=hrel
 go_upto_region 13 with (at_next;refine wpList_next_mapP rfl _ rfl Tryz.lawPair Tryz.invPair mm rfl HRG.out ?_ ?_)
 · intro hc0 hl0
   have ⟨L7,C7,F7⟩:=HKQ.out.blk hg7n HB74.out
   have VQ:=Lib.hid (VO4.out.kept HKQ.out hgrn HRWN.out)
   have lvq:=VQ.out.glt
   have fvq:=VQ.out.gfr i
   have cvq:=VQ.out.nil i (Nat.le_refl _) hlt
   have VR9 : Vr wq g8 f (solV p s.T s3.V i):=⟨VR.out.1,fun a ha => by
     rw [← HGR.out.done (fun a d h9 => by
       have h1:=HRNG.out i a d h9
       obtain ⟨kl,hkl⟩:=Tryz.keyPair (a : Int) (d : Int) (WalkArith.wf_i64 (by omega)) (WalkArith.wf_i64 (by omega))
       exact ⟨kl,hkl,hl0 kl⟩) (fun a d h9 => by
       by_cases e : s.T i a d = top
       · exact e
       · have h1:=HRNG.out i a d e
         rw [HFE.out] at h9
         exact absurd h1.1 h9) ha]
     exact VR.out.2.1 a ha,VR.out.2.2⟩
   have hkq3 : Below w3.heap.size w3 wq:=Kept.below (X:=[r,g8]) HB34.out.toBelow HB34.out.size (fun y hy => by simp at hy;omega) HKQ.out
   have hzq:=HKQ.out.size
   have hz4:=HB34.out.size
   go_upto_region 17 with fail
   have hks : Kept [gr] wq (wq.setCell ⟨gr,i,none⟩ (.slice (some ⟨g8,0,none⟩) f f)):=(Kept.refl [gr] wq).set gr i _ (.inl (by simp))
   refine wp_named (fun Y => Below w3.heap.size w3 Y ∧ Blk Y g7 [.slice (some ⟨gr,0,none⟩) K0.n1 K0.n1] ∧ Vo K0.n1 f (i + 1) base Y gr (updN rw i g8) (solV p s.T s3.V) ∧ base ≤ Y.heap.size) ⟨hkq3.setCell (show w3.heap.size ≤ gr from hgr3) _,hks.blk (by simpa using hne7'.symm) (HKQ.out.blk hg7n HB74.out),VQ.out.snoc hlt hg8b VR9 (fun n hn e => HRWN.out n hn (by simp [e])),by simp [World.setCell];omega⟩ ?_
   rintro Y ⟨hbY,BY,VY,hzY⟩
   go_wp2_with fail
   exact ⟨⟨i + 1,updN rw i g8,by omega,by go_num,Lib.hid hbY,Lib.hid BY,Lib.hid VY,hzY⟩,by simp [intOf];omega⟩
 · intro x y left2 w5 cnt5 hwx hwy hcame hrg5 hlt5 hk5 hs5 hne5 hen
   obtain ⟨a,d,ekey⟩ : ∃ a d : Nat,(.agg #[.int .i64 x,.int .i64 y] : Value) = pv2 a d:=by
     by_cases h : ∃ a d : Nat,(.agg #[.int .i64 x,.int .i64 y] : Value) = pv2 a d
     · exact h
     · exact absurd (HM.out.jno i _ hiK (fun a d e => h ⟨a,d,e⟩)) hne5
   obtain ⟨rfl,rfl⟩ : x = (a : Int) ∧ y = (d : Int):=by unfold pv2 at ekey;simpa using ekey
   clear ekey
   have ejv : G3.jv i (.agg #[.int .i64 (a : Int),.int .i64 (d : Int)]) = xv (s.T i a d):=(HM.out.hj i a d hiK).trans (by rw [HET.out])
   have hTne : s.T i a d ≠ top:=fun h => hne5 (by rw [ejv,h];rfl)
   obtain ⟨hxa,hdf⟩:=HRNG.out i a d hTne
   obtain ⟨x0,x1,x2,ex⟩ : ∃ x0 x1 x2,(s.T i a d).1 = ⟨x0,x1,x2⟩:=⟨_,_,_,rfl⟩
   have ejx : G3.jv i (.agg #[.int .i64 (a : Int),.int .i64 (d : Int)]) = .agg #[.int .i64 x0,.int .i64 x1,.int .i64 x2]:=ejv.trans (by unfold xv;rw [ex])
   rw [ejx] at hen ⊢
   obtain ⟨st,est⟩ : ∃ st,If.stOf p.ns i = st:=⟨_,rfl⟩
   obtain ⟨y0,y1,ey⟩ : ∃ y0 y1,(s3.V st a).1 = ⟨y0,y1⟩:=⟨_,_,rfl⟩
   obtain ⟨q0,q1,eq⟩ : ∃ q0 q1,(app (s.T i a d) (s3.V st a)).1 = ⟨q0,q1⟩:=⟨_,_,rfl⟩
   obtain ⟨m0,m1,em⟩ : ∃ m0 m1,(v d).1 = ⟨m0,m1⟩:=⟨_,_,rfl⟩
   obtain ⟨z0,z1,ez⟩ : ∃ z0 z1,(Iv.meetV (v d) (app (s.T i a d) (s3.V st a))).1 = ⟨z0,z1⟩:=⟨_,_,rfl⟩
   have HEX:=Lib.hid ex
   have HST:=Lib.hid est
   have HEY:=Lib.hid ey
   have HEQ:=Lib.hid eq
   have HEM:=Lib.hid em
   have HEZ:=Lib.hid ez
   have HCAME:=Lib.hid hcame
   have HRG5:=Lib.hid hrg5
   have HTN:=Lib.hid hTne
   have hkq5 : Kept [r,g8] w4 w5:=HKQ.out.next hk5 (fun y hy => by simp at hy;left;simp [hy])
   have HK5:=Lib.hid hkq5
   have VR5:=Lib.hid (VR.out.kept hk5 (by simp;omega))
   have HLT5:=Lib.hid hlt5
   clear ejv ejx hne5 hTne hcame hrg5 hk5 hs5 hwx hwy est ex ey eq em ez hlt5 hkq5
   go_upto_region 14 with fail
   refine wp_named (fun V => ∃ g9 g10,w5.heap.size = g9 ∧ w5.heap.size + 1 = g10 ∧ Blk V g9 [.int .i64 (a : Nat),.int .i64 (d : Nat)] ∧ Blk V g10 [.int .i64 x0,.int .i64 x1,.int .i64 x2] ∧ Kept [] w5 V) ⟨_,_,rfl,rfl,?_,?_,?_⟩ ?_
   · exact ((Kept.refl [] _).alloc _).blk (by simp) (Blk.new _ _ _ _ rfl)
   · exact Blk.new _ _ _ _ (by simp)
   · exact ((Kept.refl [] w5).alloc _).alloc _
   rintro V9 ⟨g9,g10,eg9,eg10,B9,B10,hkV9⟩
   rw [eg10,eg9]
   have h9b : w4.heap.size ≤ g9:=by have:=HK5.out.size;omega
   have h10b : w4.heap.size ≤ g10:=by omega
   have HK9 : Hid (Kept [r,g8] w4 V9):=Lib.hid (HK5.out.next hkV9 (by simp))
   have hb39 : Below w3.heap.size w3 V9:=Kept.below (X:=[r,g8]) HB34.out.toBelow HB34.out.size (fun y hy => by simp at hy;omega) HK9.out
   have M9:=Lib.hid (HM.out.call hb39)
   have HB9:=Lib.hid B9
   have HB10:=Lib.hid B10
   have HRG9:=Lib.hid (HRG5.out.kept hkV9 (by simp) (by simp))
   have VR9:=Lib.hid (VR5.out.kept hkV9 (by simp))
   have BG9:=M9.out.box
   unfold sbox at BG9
   have ⟨LG9,CG9,FG9⟩:=BG9
   have ⟨L9,C9,F9⟩:=B9
   have ⟨L10,C10,F10⟩:=B10
   have lsb:=M9.out.start.1.1
   have csb:=M9.out.start.2 i hiK
   rw [HST.out] at csb
   have hst : st < KZ.n1:=by rw [← HST.out,ek];exact stlt
   have HGT : Hid (∀ w9,Kept [] V9 w9 → Calls Tryz.prog 35 #[.agg #[.slice (some ⟨KZ.tr 3,0,none⟩) K0.n1 K0.n1],.int .i64 st,.int .i64 (a : Nat)] w9 fun e w' => e = .returned (.agg #[.int .i64 y0,.int .i64 y1]) ∧ Below w9.heap.size w9 w'):=Lib.hid (fun w9 hk9 => by have h9:=(M9.out.kept hk9).getv hst (by omega) HEY.out;rw [ek] at h9;exact h9)
   have HAP : Hid (∀ w9,Calls Tryz.prog 34 #[.agg #[.int .i64 x0,.int .i64 x1,.int .i64 x2],.agg #[.int .i64 y0,.int .i64 y1]] w9 fun e w' => e = .returned (.agg #[.int .i64 q0,.int .i64 q1]) ∧ Below w9.heap.size w9 w'):=Lib.hid (fun w9 => appU_any (s.T i a d) (s3.V st a) x0 x1 x2 y0 y1 q0 q1 HEX.out HEY.out HEQ.out w9)
   clear B9 B10 eg9 eg10 hb39 hkV9
   go_cut [11] (fun s11 wx => ∃ g11,s11 = .pointer (some ⟨g11,0,none⟩) ∧ Blk wx g11 [.int .i64 q0,.int .i64 q1] ∧ Kept [] V9 wx)
   case first =>
     refine wp_region_E 17 (fun w' => SXq [] g9 g10 g KZ.sb V9 w') (by kernel_rfl) (by (first | (with_reducible assumption) | (with_reducible exact SXq.of (Kept.refl _ _).drew L9 L10 LG9 lsb (by simp) (by simp) (by simp) (by simp)) | (with_reducible exact SXq.of (hHeld.1.alloc _) L9 L10 LG9 lsb (by simp) (by simp) (by simp) (by simp)) | (with_reducible exact SXq.of ((Kept.refl _ _).alloc _).drew L9 L10 LG9 lsb (by simp) (by simp) (by simp) (by simp)))) (fun hHeld => ?_)
     refine WE_tk 0 ?_
     refine WE_tk 1 ?_
     refine WE_tk 2 ?_
     refine WE_tk 3 ?_
     refine WE_tk 4 ?_
     refine WE_tk 5 ?_
     refine WE_tk 6 ?_
     refine WE_tk 7 ?_
     refine WE_tk 8 ?_
     refine WE_tk 9 ?_
     refine WE_tk 10 ?_
     refine WE_tk 11 ?_
     refine WE_tk 12 ?_
     refine WE_tk 13 ?_
     refine WE_two 14 16 rfl rfl (by kernel_rfl) (fun K hK => ?_) (fun K hK => ?_)
     · go_simp
       (first | (go_at_call 35;refine (HGT.out _ hHeld.1).mono ?_;rintro e w6 ⟨rfl,hb6⟩;have hs6 : SXq [] g9 g10 g KZ.sb V9 w6:=SXq.of (Kept.call hHeld.1 hb6) L9 L10 LG9 lsb (by simp) (by simp) (by simp) (by simp);have hq6:=(Kept.refl [] _).call hb6;have ⟨hc6,hf6,hg6⟩:=hq6.rules;clear hb6) | (go_at_call 34;refine (HAP.out _).mono ?_;rintro e w7 ⟨rfl,hb7⟩;have hs7 : SXq [] g9 g10 g KZ.sb V9 w7:=SXq.of (Kept.call hHeld.1 hb7) L9 L10 LG9 lsb (by simp) (by simp) (by simp) (by simp);have hq7:=(Kept.refl [] _).call hb7;have ⟨hc7,hf7,hg7⟩:=hq7.rules;clear hb7))
       (try go_wp2_with fail)
       refine hK.out _ _ ?_ (fun hHeld => ?_)
       · (first | (with_reducible assumption) | (with_reducible exact SXq.of (Kept.refl _ _).drew L9 L10 LG9 lsb (by simp) (by simp) (by simp) (by simp)) | (with_reducible exact SXq.of (hHeld.1.alloc _) L9 L10 LG9 lsb (by simp) (by simp) (by simp) (by simp)) | (with_reducible exact SXq.of ((Kept.refl _ _).alloc _).drew L9 L10 LG9 lsb (by simp) (by simp) (by simp) (by simp)))
       clear hK K
       refine WE_put ?_
       refine WE_two 15 16 rfl rfl (by kernel_rfl) (fun K hK => ?_) (fun K hK => ?_)
       · go_simp
         (first | (go_at_call 35;refine (HGT.out _ hHeld.1).mono ?_;rintro e w6 ⟨rfl,hb6⟩;have hs6 : SXq [] g9 g10 g KZ.sb V9 w6:=SXq.of (Kept.call hHeld.1 hb6) L9 L10 LG9 lsb (by simp) (by simp) (by simp) (by simp);have hq6:=(Kept.refl [] _).call hb6;have ⟨hc6,hf6,hg6⟩:=hq6.rules;clear hb6) | (go_at_call 34;refine (HAP.out _).mono ?_;rintro e w7 ⟨rfl,hb7⟩;have hs7 : SXq [] g9 g10 g KZ.sb V9 w7:=SXq.of (Kept.call hHeld.1 hb7) L9 L10 LG9 lsb (by simp) (by simp) (by simp) (by simp);have hq7:=(Kept.refl [] _).call hb7;have ⟨hc7,hf7,hg7⟩:=hq7.rules;clear hb7))
         (try go_wp2_with fail)
         refine hK.out _ _ ?_ (fun hHeld => ?_)
         · (first | (with_reducible assumption) | (with_reducible exact SXq.of (Kept.refl _ _).drew L9 L10 LG9 lsb (by simp) (by simp) (by simp) (by simp)) | (with_reducible exact SXq.of (hHeld.1.alloc _) L9 L10 LG9 lsb (by simp) (by simp) (by simp) (by simp)) | (with_reducible exact SXq.of ((Kept.refl _ _).alloc _).drew L9 L10 LG9 lsb (by simp) (by simp) (by simp) (by simp)))
         clear hK K
         refine WE_put ?_
         refine WE_step 16 rfl (by kernel_rfl) (fun K hK => ?_)
         go_simp
         refine hK.out _ _ ?_ (fun hHeld => ?_)
         · (first | (with_reducible assumption) | (with_reducible exact SXq.of (Kept.refl _ _).drew L9 L10 LG9 lsb (by simp) (by simp) (by simp) (by simp)) | (with_reducible exact SXq.of (hHeld.1.alloc _) L9 L10 LG9 lsb (by simp) (by simp) (by simp) (by simp)) | (with_reducible exact SXq.of ((Kept.refl _ _).alloc _).drew L9 L10 LG9 lsb (by simp) (by simp) (by simp) (by simp)))
         clear hK K
         refine WE_put ?_
         refine WE_last rfl (by kernel_rfl) (fun K hK => ?_)
         go_simp
         refine hK.out _ _ ?_
         clear hK K
         ((try go_wp2_with fail);go_meet;refine ⟨_,rfl,?_,?_⟩;(· first | exact Blk.new _ _ _ _ rfl | exact ((hq7.blk (by simp) (Blk.new _ _ _ _ rfl)).set 0 _).set 1 _ | exact ((hq7.blk (by simp) (hq6.blk (by simp) ((Kept.refl [] _).drew.blk (by simp) (Blk.new _ _ _ _ rfl)))).set 0 _).set 1 _);(· first | exact hs7.1.alloc _ | exact (hs7.1.set _ 0 _ (.inr hs6.1.size)).set _ 1 _ (.inr hs6.1.size) | exact (hs7.1.set _ 0 _ (.inr (Nat.le_refl _))).set _ 1 _ (.inr (Nat.le_refl _))))
       · go_simp
         refine hK.out _ _ ?_ (fun hHeld => ?_)
         · (first | (with_reducible assumption) | (with_reducible exact SXq.of (Kept.refl _ _).drew L9 L10 LG9 lsb (by simp) (by simp) (by simp) (by simp)) | (with_reducible exact SXq.of (hHeld.1.alloc _) L9 L10 LG9 lsb (by simp) (by simp) (by simp) (by simp)) | (with_reducible exact SXq.of ((Kept.refl _ _).alloc _).drew L9 L10 LG9 lsb (by simp) (by simp) (by simp) (by simp)))
         clear hK K
         refine WE_put ?_
         refine WE_step 15 rfl (by kernel_rfl) (fun K hK => ?_)
         go_simp
         (first | (go_at_call 35;refine (HGT.out _ hHeld.1).mono ?_;rintro e w6 ⟨rfl,hb6⟩;have hs6 : SXq [] g9 g10 g KZ.sb V9 w6:=SXq.of (Kept.call hHeld.1 hb6) L9 L10 LG9 lsb (by simp) (by simp) (by simp) (by simp);have hq6:=(Kept.refl [] _).call hb6;have ⟨hc6,hf6,hg6⟩:=hq6.rules;clear hb6) | (go_at_call 34;refine (HAP.out _).mono ?_;rintro e w7 ⟨rfl,hb7⟩;have hs7 : SXq [] g9 g10 g KZ.sb V9 w7:=SXq.of (Kept.call hHeld.1 hb7) L9 L10 LG9 lsb (by simp) (by simp) (by simp) (by simp);have hq7:=(Kept.refl [] _).call hb7;have ⟨hc7,hf7,hg7⟩:=hq7.rules;clear hb7))
         (try go_wp2_with fail)
         refine hK.out _ _ ?_ (fun hHeld => ?_)
         · (first | (with_reducible assumption) | (with_reducible exact SXq.of (Kept.refl _ _).drew L9 L10 LG9 lsb (by simp) (by simp) (by simp) (by simp)) | (with_reducible exact SXq.of (hHeld.1.alloc _) L9 L10 LG9 lsb (by simp) (by simp) (by simp) (by simp)) | (with_reducible exact SXq.of ((Kept.refl _ _).alloc _).drew L9 L10 LG9 lsb (by simp) (by simp) (by simp) (by simp)))
         clear hK K
         refine WE_put ?_
         refine WE_last rfl (by kernel_rfl) (fun K hK => ?_)
         go_simp
         refine hK.out _ _ ?_
         clear hK K
         ((try go_wp2_with fail);go_meet;refine ⟨_,rfl,?_,?_⟩;(· first | exact Blk.new _ _ _ _ rfl | exact ((hq7.blk (by simp) (Blk.new _ _ _ _ rfl)).set 0 _).set 1 _ | exact ((hq7.blk (by simp) (hq6.blk (by simp) ((Kept.refl [] _).drew.blk (by simp) (Blk.new _ _ _ _ rfl)))).set 0 _).set 1 _);(· first | exact hs7.1.alloc _ | exact (hs7.1.set _ 0 _ (.inr hs6.1.size)).set _ 1 _ (.inr hs6.1.size) | exact (hs7.1.set _ 0 _ (.inr (Nat.le_refl _))).set _ 1 _ (.inr (Nat.le_refl _))))
     · go_simp
       refine hK.out _ _ ?_ (fun hHeld => ?_)
       · (first | (with_reducible assumption) | (with_reducible exact SXq.of (Kept.refl _ _).drew L9 L10 LG9 lsb (by simp) (by simp) (by simp) (by simp)) | (with_reducible exact SXq.of (hHeld.1.alloc _) L9 L10 LG9 lsb (by simp) (by simp) (by simp) (by simp)) | (with_reducible exact SXq.of ((Kept.refl _ _).alloc _).drew L9 L10 LG9 lsb (by simp) (by simp) (by simp) (by simp)))
       clear hK K
       refine WE_put ?_
       refine WE_step 14 rfl (by kernel_rfl) (fun K hK => ?_)
       go_simp
       (first | (go_at_call 35;refine (HGT.out _ hHeld.1).mono ?_;rintro e w6 ⟨rfl,hb6⟩;have hs6 : SXq [] g9 g10 g KZ.sb V9 w6:=SXq.of (Kept.call hHeld.1 hb6) L9 L10 LG9 lsb (by simp) (by simp) (by simp) (by simp);have hq6:=(Kept.refl [] _).call hb6;have ⟨hc6,hf6,hg6⟩:=hq6.rules;clear hb6) | (go_at_call 34;refine (HAP.out _).mono ?_;rintro e w7 ⟨rfl,hb7⟩;have hs7 : SXq [] g9 g10 g KZ.sb V9 w7:=SXq.of (Kept.call hHeld.1 hb7) L9 L10 LG9 lsb (by simp) (by simp) (by simp) (by simp);have hq7:=(Kept.refl [] _).call hb7;have ⟨hc7,hf7,hg7⟩:=hq7.rules;clear hb7))
       (try go_wp2_with fail)
       refine hK.out _ _ ?_ (fun hHeld => ?_)
       · (first | (with_reducible assumption) | (with_reducible exact SXq.of (Kept.refl _ _).drew L9 L10 LG9 lsb (by simp) (by simp) (by simp) (by simp)) | (with_reducible exact SXq.of (hHeld.1.alloc _) L9 L10 LG9 lsb (by simp) (by simp) (by simp) (by simp)) | (with_reducible exact SXq.of ((Kept.refl _ _).alloc _).drew L9 L10 LG9 lsb (by simp) (by simp) (by simp) (by simp)))
       clear hK K
       refine WE_put ?_
       refine WE_step 15 rfl (by kernel_rfl) (fun K hK => ?_)
       go_simp
       (first | (go_at_call 35;refine (HGT.out _ hHeld.1).mono ?_;rintro e w6 ⟨rfl,hb6⟩;have hs6 : SXq [] g9 g10 g KZ.sb V9 w6:=SXq.of (Kept.call hHeld.1 hb6) L9 L10 LG9 lsb (by simp) (by simp) (by simp) (by simp);have hq6:=(Kept.refl [] _).call hb6;have ⟨hc6,hf6,hg6⟩:=hq6.rules;clear hb6) | (go_at_call 34;refine (HAP.out _).mono ?_;rintro e w7 ⟨rfl,hb7⟩;have hs7 : SXq [] g9 g10 g KZ.sb V9 w7:=SXq.of (Kept.call hHeld.1 hb7) L9 L10 LG9 lsb (by simp) (by simp) (by simp) (by simp);have hq7:=(Kept.refl [] _).call hb7;have ⟨hc7,hf7,hg7⟩:=hq7.rules;clear hb7))
       (try go_wp2_with fail)
       refine hK.out _ _ ?_ (fun hHeld => ?_)
       · (first | (with_reducible assumption) | (with_reducible exact SXq.of (Kept.refl _ _).drew L9 L10 LG9 lsb (by simp) (by simp) (by simp) (by simp)) | (with_reducible exact SXq.of (hHeld.1.alloc _) L9 L10 LG9 lsb (by simp) (by simp) (by simp) (by simp)) | (with_reducible exact SXq.of ((Kept.refl _ _).alloc _).drew L9 L10 LG9 lsb (by simp) (by simp) (by simp) (by simp)))
       clear hK K
       refine WE_put ?_
       refine WE_last rfl (by kernel_rfl) (fun K hK => ?_)
       go_simp
       refine hK.out _ _ ?_
       clear hK K
       ((try go_wp2_with fail);go_meet;refine ⟨_,rfl,?_,?_⟩;(· first | exact Blk.new _ _ _ _ rfl | exact ((hq7.blk (by simp) (Blk.new _ _ _ _ rfl)).set 0 _).set 1 _ | exact ((hq7.blk (by simp) (hq6.blk (by simp) ((Kept.refl [] _).drew.blk (by simp) (Blk.new _ _ _ _ rfl)))).set 0 _).set 1 _);(· first | exact hs7.1.alloc _ | exact (hs7.1.set _ 0 _ (.inr hs6.1.size)).set _ 1 _ (.inr hs6.1.size) | exact (hs7.1.set _ 0 _ (.inr (Nat.le_refl _))).set _ 1 _ (.inr (Nat.le_refl _))))
   case rest =>
   rename World => VX
   obtain ⟨g11,rfl,B11,hkX⟩:=hcut
   have hkX5 : Kept [r,g8] w4 VX:=HK9.out.next hkX (by simp)
   have HKX:=Lib.hid hkX5
   have VRX:=Lib.hid (VR9.out.kept hkX (by simp))
   have HRGX:=Lib.hid (HRG9.out.kept hkX (by simp) (by simp))
   have ⟨L9x,C9x,F9x⟩:=hkX.blk (by simp) HB9.out
   have ⟨L11,C11,F11⟩:=B11
   have l8:=VRX.out.1
   have c80:=(VRX.out.2.1 d hdf).1
   have c81:=(VRX.out.2.1 d hdf).2
   rw [HEM.out] at c80 c81
   have f8:=VRX.out.2.2
   have hdf9 : (d : Int) < (f : Int):=by omega
   have HMT : Hid (∀ w9,Calls Tryz.prog 36 #[.agg #[.int .i64 m0,.int .i64 m1],.agg #[.int .i64 q0,.int .i64 q1]] w9 fun e w' => e = .returned (.agg #[.int .i64 z0,.int .i64 z1]) ∧ Below w9.heap.size w9 w'):=Lib.hid (fun w9 => meetU_any (v d) (app (s.T i a d) (s3.V st a)) m0 m1 q0 q1 z0 z1 HEM.out HEQ.out HEZ.out w9)
   clear B11 hkX hkX5 C9 F9 L9 C10 F10 L10 CG9 FG9 LG9 lsb csb M9
   go_upto_region 15 with fail
   refine wp_region_E 11 (fun w' => SXt [] g9 g11 g8 VX w') (by kernel_rfl) (by (first | (with_reducible assumption) | (with_reducible exact SXt.of (Kept.refl _ _).drew L9x L11 l8 (by simp) (by simp) (by simp)))) (fun hHeld => ?_)
   refine WE_tk 0 ?_
   refine WE_tk 1 ?_
   refine WE_tk 2 ?_
   refine WE_tk 3 ?_
   refine WE_tk 4 ?_
   refine WE_tk 5 ?_
   refine WE_tk 6 ?_
   refine WE_tk 7 ?_
   refine WE_tk 8 ?_
   refine WE_step 9 rfl (by kernel_rfl) (fun K hK => ?_)
   go_simp
   (go_at_call 36;refine (HMT.out _).mono ?_;rintro e w8 ⟨rfl,hb8⟩;have hk8 : Kept [] VX w8:=Kept.call hHeld.1 hb8;have hs8 : SXt [] g9 g11 g8 VX w8:=SXt.of hk8 L9x L11 l8 (by simp) (by simp) (by simp);have f8w : ∀ o,w8.frozen? ⟨g8,o,none⟩ = false:=fun o => (hk8.frozen g8 o l8 (by simp)).trans (f8 o);have l8w : g8 < w8.heap.size:=Nat.lt_of_lt_of_le l8 hk8.size;clear hb8)
   (try go_wp2_with fail)
   refine hK.out _ _ ?_ (fun hHeld => ?_)
   · (first | (with_reducible assumption) | (with_reducible exact SXt.of (Kept.refl _ _).drew L9x L11 l8 (by simp) (by simp) (by simp)))
   clear hK K
   refine WE_put ?_
   refine WE_tk 10 ?_
   refine WE_last rfl (by kernel_rfl) (fun K hK => ?_)
   go_simp
   refine hK.out _ _ ?_
   clear hK K
   have hput : Vr ((w8.setCell ⟨g8,d * 2,none⟩ (.int .i64 z0)).setCell ⟨g8,d * 2 + 1,none⟩ (.int .i64 z1)) g8 f (fun x => if x = d then Iv.meetV (v d) (app (s.T i a d) (s3.V st a)) else v x):=by
     have h:=(VRX.out.kept hk8 (by simp)).put hdf (Iv.meetV (v d) (app (s.T i a d) (s3.V st a))) rfl
     rw [HEZ.out] at h
     exact h
   refine act_named (fun Y => Vr Y g8 f (fun x => if x = d then Iv.meetV (v d) (app (s.T i a d) (s3.V st a)) else v x) ∧ Kept [g8] VX Y) ⟨hput,((keptWide hk8 (by simp)).set g8 _ _ (.inl (by simp))).set g8 _ _ (.inl (by simp))⟩ ?_
   rintro Y ⟨VRY,hkY⟩
   have hrgY:=HRGX.out.kept hkY (fun b hb hm => by have h1:=HMB.out b hb;simp at hm;omega) (by simp;omega)
   have hgrY:=HGR.out.step HCAME.out HTN.out hdf
   rw [HST.out] at hgrY
   go_wp2_with fail
   exact ⟨⟨left2,cnt5,_,Lib.hid VRY,Lib.hid hgrY,Lib.hid hrgY,Lib.hid (HKX.out.next hkY (fun y hy => by simp at hy;left;simp [hy]))⟩,by rw [hrgY.left_eq,HRG.out.left_eq];exact HLT5.out⟩
set_option maxRecDepth 100000 in
set_option maxHeartbeats 4000000 in
theorem psolve_err (A1 A2 A3 A4 : Option Addr) (n1 c1 n2 c2 n3 c3 n4 c4 : Nat) (mn F pe : Int) (w : World) (h0 : pe ≠ 0)
   (hchk : ∀ w1,Below w.heap.size w w1 → Calls Tryz.prog 31 #[.agg #[.slice A1 n1 c1,.slice A2 n2 c2,.int .i64 mn,.int .i64 F,.slice A3 n3 c3,.slice A4 n4 c4]] w1 fun e w' => e = .returned (.int .i64 pe) ∧ Below w1.heap.size w1 w') :
   Calls Tryz.prog 10 #[.agg #[.slice A1 n1 c1,.slice A2 n2 c2,.int .i64 mn,.int .i64 F,.slice A3 n3 c3,.slice A4 n4 c4]] w fun e w' => e = .returned (.tuple #[.agg #[.slice none 0 0],.int .i64 pe]) ∧ Below w.heap.size w w':=by
 have HCHK:=Lib.hid hchk
 have h0' : (pe != 0) = true:=by simpa using h0
 clear hchk h0
 go_enter Tryz.func10,Tryz.ntmps10
 go_upto_region 1 with fail
 refine wp_named (fun W => ∃ b0 b1,w.heap.size = b0 ∧ w.heap.size + 1 = b1 ∧ Blk W b0 [.slice A1 n1 c1,.slice A2 n2 c2,.int .i64 mn,.int .i64 F,.slice A3 n3 c3,.slice A4 n4 c4] ∧ Blk W b1 [.slice none 0 0] ∧ Below w.heap.size w W) ⟨_,_,rfl,rfl,?_,?_,?_⟩ ?_
 · exact (Blk.new _ _ _ _ (by first | rfl | simp)).alloc _
 · exact kbn
 · go_grown
 rintro W ⟨b0,b1,e0,e1,B0,B1,hB⟩
 rw [e1,e0]
 have G0 : w.heap.size ≤ b0:=by omega
 have n01 : b0 ≠ b1:=by omega
 have G1 : w.heap.size ≤ b1:=by omega
 have n10 : b1 ≠ b0:=by omega
 clear e0 e1
 have ⟨L0,C0,F0⟩:=B0
 have ⟨L1,C1,F1⟩:=B1
 go_upto_region 2 with (go_at_call 31;refine (HCHK.out _ hB).mono ?_;rintro e w1 ⟨rfl,hb1⟩)
 have hk1 : Kept [] W w1:=(Kept.refl _ _).call hb1
 have B11:=hk1.blk (by simp) B1
 have ⟨L11,C11,F11⟩:=B11
 have hB1:=hk1.below hB hB.size (by simp)
 clear C1 F1
 go_wp2_with fail
 refine retNamed9 (fun X => Blk X b1 [.slice none 0 0] ∧ Kept [b1] w1 X) ⟨B11.set 0 _,(Kept.refl [b1] w1).set b1 0 _ (.inl (by simp))⟩ ?_
 rintro X ⟨BX,hkX⟩
 have ⟨LX,CX,FX⟩:=BX
 refine bodyPost_ret (by simp [results,Tryz.results10,go_sem,CX];try rfl) rfl ?_
 exact ⟨rfl,hkX.below hB1 hB1.size (by simpa using G1)⟩
end Go.Proofs.YtincpmdldpakkaaGreatDoor
