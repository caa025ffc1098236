/- Texts: Uk Dg. -/
import Derived.Test.YtincpmdldpakkaaGreatDoorMt28
import Derived.Test.YtincpmdldpakkaaGreatDoorMt39
import Derived.Test.YtincpmdldpakkaaGreatDoorMt38
import Derived.Test.YtincpmdldpakkaaGreatDoorMt18
import Derived.Test.YtincpmdldpakkaaGreatDoorMt11
import Derived.Test.YtincpmdldpakkaaGreatDoorMt21
namespace Go.Proofs.YtincpmdldpakkaaGreatDoor
open Go.RowKit Go.Df Go.Df.Iv Go.Df.Sp
attribute [local go_sem ↓] Go.wp_at_zero Go.wp_at_succ
theorem al_run {ns : List Sp.Nd} {es : List Sp.Ed} {mn F : Int} {ls : List (List Sp.Xp)} {sd : List Sp.Vs} {path : List Int} (h : alErr ns es mn F ls sd path = 0) : (runS es mn [] path).1 = 0:=by
 unfold alErr at h
 split at h
 · rename_i h0;exact absurd h h0
 · unfold followS at h
   split at h
   · rename_i h0;exact absurd h h0
   · split at h
     · cases h
     · exact h
set_option maxRecDepth 100000 in
set_option maxHeartbeats 20000000 in
theorem ideMeet_any {q : Vb} (A1 A2 A3 A4 A5 : Option Addr) (n1 c1 n2 c2 n3 c3 n4 c4 n5 c5 : Nat) (path : List Int) (w : World) (hF : Fls w A3 n3 q.fl) (hL : n4 ≤ 1000000 → Lies q A1 A2 A3 A4 n1 n2 n3 n4 w) (hp : Ints w A5 n5 path) (hgv : Gv w) :
   Calls Tryz.prog 3 #[.agg #[.slice A1 n1 c1,.slice A2 n2 c2,.int .i64 q.mn,.int .i64 q.F,.slice A3 n3 c3,.slice A4 n4 c4],.slice A5 n5 c5] w fun e w' => e = .returned (.bool true) ∧ Below w.heap.size w w':=by
 have HF:=Lib.hid hF
 have HL:=Lib.hid hL
 have HGV:=Lib.hid hgv
 have HP:=Lib.hid hp
 have HPN:=Lib.hid hp.1
 obtain ⟨pe,hpe⟩ : ∃ pe,vErr q = pe:=⟨_,rfl⟩
 have HPE:=Lib.hid hpe
 clear hF hL hpe hgv hp
 go_enter Tryz.func3,Tryz.ntmps3
 go_upto_region 1 with fail
 refine wp_named (fun W => ∃ b0,w.heap.size = b0 ∧ Blk W b0 [.slice A1 n1 c1,.slice A2 n2 c2,.int .i64 q.mn,.int .i64 q.F,.slice A3 n3 c3,.slice A4 n4 c4] ∧ Below w.heap.size w W) ⟨_,rfl,?_,?_⟩ ?_
 · exact kbn
 · go_grown
 rintro W ⟨b0,e0,B0,hB⟩
 rw [e0]
 have G0 : w.heap.size ≤ b0:=by omega
 clear e0
 have ⟨L0,C0,F0⟩:=B0
 have HB0:=Lib.hid B0
 have hkw0 : Kept [] w W:=(Kept.refl _ _).call hB
 go_wp2_with fail
 refine (small33_any A1 A2 A3 A4 n1 c1 n2 c2 n3 c3 n4 c4 q.mn q.F q.fl _ (HF.out.later hB)).mono ?_
 rintro e w1 ⟨b,rfl,hsm,hb1⟩
 have hk1 : Kept [] W w1:=(Kept.refl _ _).call hb1
 have HB1 : Hid (Below w.heap.size w w1):=Lib.hid (hk1.below hB hB.size (by simp))
 have B01:=Lib.hid (hk1.blk (by simp) HB0.out)
 have ⟨L01,C01,F01⟩:=B01.out
 clear C0 F0
 cases b with
 | false =>
   go_wp2_with fail
   go_ret
   exact ⟨rfl,HB1.out⟩
 | true =>
 have HSM:=Lib.hid (hsm rfl)
 have HLL : Hid (Lies q A1 A2 A3 A4 n1 n2 n3 n4 w):=HL.out (by have:=HSM.out;omega)
 clear hsm
 by_cases h30 : n5 ≤ 30
 case neg =>
   have g30 : decide ((30 : Int) < (n5 : Int)) = true:=decide_eq_true (by omega)
   go_wp2_with fail
   go_ret
   exact ⟨rfl,HB1.out⟩
 have g30 : decide ((30 : Int) < (n5 : Int)) = false:=decide_eq_false (by omega)
 go_wp2_with fail
 refine (rideck_any A1 A2 A3 A4 n1 c1 n2 c2 n3 c3 n4 c4 q.mn q.F q.ns q.es q.fl q.sd _ (HLL.out.nd.later HB1.out) (HLL.out.ed.later HB1.out) (HLL.out.fl.later HB1.out) (HLL.out.sd.later HB1.out) (by have:=HSM.out;omega)).mono ?_
 have hpe9 : Sp.ideErr q.ns q.es q.mn q.F q.fl q.sd = pe:=HPE.out
 rw [hpe9]
 clear hpe9
 rintro e w2 ⟨rfl,hb2⟩
 have hk12 : Kept [] w1 w2:=(Kept.refl _ _).call hb2
 have HB2 : Hid (Below w.heap.size w w2):=Lib.hid (hk12.below HB1.out HB1.out.size (by simp))
 by_cases h0 : pe = 0
 case neg =>
   have h0' : (pe != 0) = true:=by simpa using h0
   go_wp2_with fail
   go_ret
   exact ⟨rfl,HB2.out⟩
 subst h0
 have HOV:=Lib.hid (vok_of HPE.out)
 have HMU : Hid (mu0 q ≤ 1000000):=mu_small (by have:=HSM.out;have:=HLL.out.nd.1;omega) (by have:=HSM.out;omega)
 have HN1 : Hid (n1 = q.ns.length ∧ n1 ≤ 36):=⟨HLL.out.nd.1.symm,HSM.out.1⟩
 have HMM : Hid (q.mn = (q.mn.toNat : Int) ∧ q.F = (q.F.toNat : Int)):=⟨by have:=If.main_in (If.sup_parts HOV.out.sup).2.2.1;omega,by have:=HOV.out.f1;omega⟩
 have HGR : Hid (Gr w A1 n1 A2 n2 q.ns q.es):=⟨HLL.out.nd,HLL.out.ed,HLL.out.wn,HLL.out.we⟩
 have B02:=Lib.hid (hk12.blk (by simp) B01.out)
 have ⟨L02,C02,F02⟩:=B02.out
 clear C01 F01 L01
 go_upto_region 4 with (go_at_call 10;refine (psolve_any (p:=q) A1 A2 A3 A4 n1 c1 n2 c2 n3 c3 n4 c4 _ (HLL.out.later HB2.out) (HGV.out.later HB2.out) (fun _ => HMU.out)).mono ?_;rw [HPE.out];rintro e w3 h3;rcases h3 with ⟨-,go,cc,rw3,rc3,S,rfl,hV3,hI3,hb3⟩ | ⟨h9,-⟩;rotate_left;(· exact absurd rfl h9);have HV3:=Lib.hid hV3;have HI3:=Lib.hid hI3;clear hV3 hI3)
 refine wp_named (fun V3 => ∃ g8,w3.heap.size = g8 ∧ Blk V3 g8 [.slice (some ⟨go,0,none⟩) n1 cc] ∧ Kept [] w3 V3) ⟨_,rfl,Blk.new _ _ _ _ rfl,(Kept.refl _ _).alloc _⟩ ?_
 rintro V3 ⟨g8,eg8,Bg8,hkV3⟩
 rw [eg8]
 have hk23 : Kept [] w2 V3:=((Kept.refl [] w2).call hb3).next hkV3 (by simp)
 have HB3 : Hid (Below w.heap.size w V3):=Lib.hid (hk23.below HB2.out HB2.out.size (by simp))
 have B03:=Lib.hid (hk23.blk (by simp) B02.out)
 have HBG8:=Lib.hid Bg8
 have HV33:=Lib.hid (HV3.out.keep hkV3)
 have ⟨L03,C03,F03⟩:=B03.out
 clear C02 F02 L02 eg8 Bg8 hkV3
 obtain ⟨er,her⟩ : ∃ er,alErr q.ns q.es q.mn q.F q.fl q.sd path = er:=⟨_,rfl⟩
 have HER:=Lib.hid her
 obtain ⟨f,hf⟩ : ∃ f,q.F.toNat = f:=⟨_,rfl⟩
 rw [hf] at HV33
 have HEF:=Lib.hid hf
 have hf6 : f ≤ 6:=by have:=HSM.out;omega
 have hn36 : n1 ≤ 36:=HN1.out.2
 have hs4 : n4 ≤ 9223372036854775806:=by have:=HSM.out;omega
 have HAL : Hid (∀ w9,Below w.heap.size w w9 → Calls Tryz.prog 11 #[.agg #[.slice A1 n1 c1,.slice A2 n2 c2,.int .i64 q.mn,.int .i64 q.F,.slice A3 n3 c3,.slice A4 n4 c4],.slice A5 n5 c5] w9 fun e w' => ∃ A m c,e = .returned (.tuple #[.slice A m c,.int .i64 er]) ∧ (er = 0 → ∃ ga,A = some ⟨ga,0,none⟩ ∧ m = f ∧ Vals w' ga f (runP q path)) ∧ Below w9.heap.size w9 w'):=Lib.hid (fun w9 hb => by
   refine (rAlong_any A1 A2 A3 A4 A5 n1 c1 n2 c2 n3 c3 n4 c4 n5 c5 q.mn q.F q.ns q.es q.fl q.sd path w9 (HGR.out.later hb) (HLL.out.fl.later hb) (HLL.out.sd.later hb) (HP.out.later hb) hs4 er HER.out).mono ?_
   rintro e w' ⟨⟨h0,he⟩ | ⟨h0,ga,ca,he,hva,-,-⟩,hb'⟩
   · exact ⟨_,_,_,he,fun h9 => absurd h9 h0,hb'⟩
   · subst h0
     rw [HEF.out] at he hva
     exact ⟨_,_,_,he,fun _ => ⟨ga,rfl,rfl,hva⟩,hb'⟩)
 have HCH : Hid (chkErr q.ns q.es q.mn q.mn = 0):=by
   show _ = _
   have hmain:=If.main_in (If.sup_parts HOV.out.sup).2.2.1
   unfold chkErr
   rw [if_neg (not_not_intro HOV.out.sup),if_neg (by omega)]
 clear her hf
 have ⟨L83,C83,F83⟩:=HBG8.out
 go_upto_region 7 with (go_at_call 11;refine (HAL.out _ HB3.out).mono ?_;rintro e w4 ⟨Al,ml,cl,rfl,hal,hb4⟩;have HVL:=Lib.hid hal;clear hal)
 have hk34 : Kept [] V3 w4:=(Kept.refl _ _).call hb4
 have HB4 : Hid (Below w.heap.size w w4):=Lib.hid (hk34.below HB3.out HB3.out.size (by simp))
 have B04:=Lib.hid (hk34.blk (by simp) B03.out)
 have HBG4:=Lib.hid (hk34.blk (by simp) HBG8.out)
 have HV4:=Lib.hid (HV33.out.keep hk34)
 have ⟨L04,C04,F04⟩:=B04.out
 have ⟨L84,C84,F84⟩:=HBG4.out
 clear C03 F03 L03 C83 F83 L83
 go_upto_if 54 with fail
 go_cut [9] (fun s wx => Kept [] w4 wx)
 case first =>
   by_cases h0 : er = 0
   case neg =>
     have z0 : (er == 0) = false:=by simpa using h0
     go_wp2_with fail
     go_meet
     exact Kept.refl _ _
   subst h0
   obtain ⟨ga,rfl,rfl,hva⟩:=HVL.out rfl
   have HVA:=Lib.hid hva
   have HRUN : Hid ((runS q.es q.mn [] path).1 = 0):=Lib.hid (al_run HER.out)
   have hend : 0 ≤ (runS q.es q.mn [] path).2.1 ∧ (runS q.es q.mn [] path).2.1 < q.ns.length:=run_in9 HOV.out (path:=path) (st:=(runS q.es q.mn [] path).2.2) (Prod.ext HRUN.out rfl)
   obtain ⟨nd,hnd⟩:=Int.eq_ofNat_of_zero_le hend.1
   have HND : Hid (endS q.es q.mn path = (nd : Int)):=Lib.hid (by rw [← runS_end path HRUN.out];exact hnd)
   have hndn : nd < n1:=by have:=HN1.out;omega
   have HBE : Hid (∀ d,d < ml → Xf.rbelow (S nd d).1 (runP q path d) = true):=Lib.hid (fun d hd => by
     have h9:=meet_below HOV.out HLL.out.fit HI3.out (path:=path) (n:=(nd : Int)) (st:=(runS q.es q.mn [] path).2.2) (d:=d) (Prod.ext HRUN.out (Prod.ext hnd rfl)) (by rw [HEF.out];exact hd)
     rwa [Int.toNat_natCast] at h9)
   have HPI:=Lib.hid (run_rng path HRUN.out)
   clear hva hend hnd
   go_upto_if 60 with fail
   go_cut [9] (fun s wx => s = .int .i64 nd ∧ Kept [] w4 wx)
   case first =>
     have hcases : n5 = 0 ∨ 0 < n5:=by omega
     rcases hcases with h5 | h5
     · subst h5
       have HE : Hid (q.mn = (nd : Int)):=by
         show _ = _
         have : path = []:=List.eq_nil_of_length_eq_zero HPN.out
         subst this
         exact HND.out
       go_wp2_with fail
       go_meet
       exact ⟨by rw [HE.out],Kept.refl _ _⟩
     · have y1 : (0 : Int) < (n5 : Int):=by omega
       have HP4:=HP.out.later HB4.out
       obtain ⟨b5,o5,rfl,hl5,hc5⟩:=HP4.2 h5
       have hpj:=HPI.out (n5 - 1) (by rw [HPN.out];omega)
       obtain ⟨k,hk⟩:=Int.eq_ofNat_of_zero_le hpj.1
       have hk2 : k < n2:=by have:=HGR.out.ed.1;omega
       obtain ⟨b2,o2,rfl,hl2,hc2e⟩:=HGR.out.ed.cell2 HB4.out hk2
       have r5 : w4.cell? ⟨b5,o5 + (n5 - 1),none⟩ = some (.int .i64 k):=by rw [← hk];exact hc5 (n5 - 1) (by omega)
       have hE : Hid ((ge q.es k).b = (nd : Int)):=by
         show _ = _
         rw [← HND.out,endS_last path q.mn (by rw [HPN.out];omega),HPN.out,hk]
         rfl
       rw [hE.out] at hc2e
       have hl2r : b2 < w4.heap.size:=Nat.lt_of_lt_of_le hl2 HB4.out.size
       have hk2' : (k : Int) < (n2 : Int):=by omega
       have w3 : IntKind.i64.wrap ((n5 : Int) - 1) = (n5 : Int) - 1:=IntWalk.i64_in _ (by omega)
       have w4' : (0 : Int) ≤ (n5 : Int) - 1:=by omega
       have w5 : ((n5 : Int) - 1).toNat = n5 - 1:=by omega
       have w7 : (n5 : Int) - 1 < (n5 : Int):=by omega
       have w9 : 1 ≤ n5:=by omega
       have w10 : (1 : Int) ≤ (n5 : Int):=by omega
       clear hk hpj hc5 HP4
       go_upto_region 10 with fail
       go_quiet (fail)
       go_wp2_with fail
       go_meet
       exact ⟨rfl,(Kept.refl _ _).drewN _⟩
   case rest =>
   rename World => X
   obtain ⟨rfl,hkX⟩:=hcut
   have hwX : Kept [] V3 X:=keptTrans hk34 hkX
   have B0X:=Lib.hid (hkX.blk (by simp) B04.out)
   have HBGX:=Lib.hid (hkX.blk (by simp) HBG4.out)
   have HVX:=Lib.hid (HV4.out.keep hkX)
   have HVAX:=Lib.hid (HVA.out.kept hkX (by simp))
   clear C04 F04 L04 C84 F84 L84
   go_wp2_with fail
   go_loopw [10] (fun s wr => ∃ d : Nat,d ≤ ml ∧ s = .int .i64 d ∧ Kept [] X wr) (fun s _ => ml - (intOf s).toNat)
   case atStart => exact ⟨0,Nat.zero_le _,rfl,Kept.refl _ _⟩
   case round =>
   obtain ⟨d,hd,rfl,hkr⟩:=hrel
   have ⟨L8r,C8r,F8r⟩:=hkr.blk (by simp) HBGX.out
   by_cases hlt : d < ml
   case neg =>
     obtain rfl : d = ml:=by omega
     go_wp2_with fail
     go_meet
     exact keptTrans hkX hkr
   have hd1 : (d : Int) < (ml : Int):=by omega
   have hdg : decide ((ml : Int) ≤ (d : Int)) = false:=decide_eq_false (by omega)
   have hdn : decide (ml ≤ d) = false:=decide_eq_false (by omega)
   have VR:=Lib.hid (HVX.out.keep hkr)
   have VA:=Lib.hid (HVAX.out.kept hkr (by simp))
   have r1:=VR.out.row nd hndn
   have hnd9 : (nd : Int) < (n1 : Int):=by omega
   have gl1:=VR.out.glt
   have lrow:=VR.out.lt nd hndn
   have hc:=VR.out.cell nd d hndn hlt
   obtain ⟨k0,k1,hs0⟩ : ∃ k0 k1,(S nd d).1 = ⟨k0,k1⟩:=⟨_,_,rfl⟩
   obtain ⟨v0,v1,hv0⟩ : ∃ v0 v1,runP q path d = ⟨v0,v1⟩:=⟨_,_,rfl⟩
   have va0:=VA.out.c0 d hlt
   have va1:=VA.out.c1 d hlt
   have lva:=VA.out.lt
   have HBL : Hid (Xf.rbelow ⟨k0,k1⟩ ⟨v0,v1⟩ = true):=Lib.hid (by rw [← hs0,← hv0];exact HBE.out d hlt)
   rw [hs0] at hc
   rw [hv0] at va0 va1
   have ⟨ca,cb⟩:=hc
   clear hc hs0 hv0 hlt
   go_upto_region 14 with fail
   refine wp_region_E 23 (fun w' => SX0 wr w') (by kernel_rfl) (by (exact kp0)) (fun hHeld => ?_)
   refine WE_tk 0 ?_
   refine WE_tk 1 ?_
   refine WE_tk 2 ?_
   refine WE_tk 3 ?_
   refine WE_tk 4 ?_
   refine WE_tk 5 ?_
   refine WE_tk 6 ?_
   refine WE_tk 7 ?_
   refine WE_tk 8 ?_
   first | (refine WE_tu 9 ?_) | (refine WE_tk 9 ?_)
   first | (refine WE_tu 10 ?_) | (refine WE_tk 10 ?_)
   first | (refine WE_tu 11 ?_) | (refine WE_tk 11 ?_)
   first | (refine WE_tu 12 ?_) | (refine WE_tk 12 ?_)
   first | (refine WE_tu 13 ?_) | (refine WE_tk 13 ?_)
   first | (refine WE_tu 14 ?_) | (refine WE_tk 14 ?_)
   first | (refine WE_tu 15 ?_) | (refine WE_tk 15 ?_)
   first | (refine WE_tu 16 ?_) | (refine WE_tk 16 ?_)
   first | (refine WE_tu 17 ?_) | (refine WE_tk 17 ?_)
   first | (refine WE_tu 18 ?_) | (refine WE_tk 18 ?_)
   first | (refine WE_tu 19 ?_) | (refine WE_tk 19 ?_)
   first | (refine WE_tu 20 ?_) | (refine WE_tk 20 ?_)
   refine WE_step 21 rfl (by kernel_rfl) (fun K hK => ?_)
   go_simp
   (go_at_call 12;refine (rbelow_any k0 k1 v0 v1 _).mono ?_;rw [HBL.out];rintro e w9 ⟨rfl,hb9⟩)
   (try go_wp2_with fail)
   refine hK.out _ _ ?_ (fun hHeld => ?_)
   · (exact kp0)
   clear hK K
   refine WE_put ?_
   first | (refine WE_tu 22 ?_) | (refine WE_tk 22 ?_)
   refine WE_last rfl (by kernel_rfl) (fun K hK => ?_)
   go_simp
   refine hK.out _ _ ?_
   clear hK K
   have hk9 : Kept [] wr w9:=hHeld.1
   go_wp2_with fail
   exact ⟨⟨d + 1,by omega,by go_num,keptTrans hkr hk9⟩,by simp [intOf];omega⟩
 case rest =>
 rename World => T
 have hk4T : Kept [] w4 T:=hcut
 have HBT : Hid (Below w.heap.size w T):=Lib.hid (hk4T.below HB4.out HB4.out.size (by simp))
 have B0T:=Lib.hid (hk4T.blk (by simp) B04.out)
 have HBGT:=Lib.hid (hk4T.blk (by simp) HBG4.out)
 have HVT:=Lib.hid (HV4.out.keep hk4T)
 have ⟨L0T,C0T,F0T⟩:=B0T.out
 clear C04 F04 L04 C84 F84 L84 hcut
 obtain ⟨m9,hm9⟩ : ∃ m9,(itI q.es 2000 q.mn (9 + 1)).1.length = m9:=⟨_,rfl⟩
 have HM9:=Lib.hid hm9
 have HM92 : m9 ≤ 2000:=by rw [← hm9];exact itI_out_len _
 obtain ⟨L8,hL8⟩ : ∃ L8,(itI q.es 2000 q.mn (8 + 1)).1 = L8:=⟨_,rfl⟩
 have HL8:=Lib.hid hL8
 clear hm9 hL8
 have HFEW : Hid (∀ w9,Below w.heap.size w w9 → Calls Tryz.prog 13 #[.agg #[.slice A1 n1 c1,.slice A2 n2 c2,.int .i64 q.mn],.int .i64 9] w9 fun e w' => e = .returned (.bool (decide ((m9 : Int) < 2000))) ∧ Below w9.heap.size w9 w'):=Lib.hid (fun w9 hb => rfew_any A1 A2 n1 c1 n2 c2 q.mn q.ns q.es w9 (HGR.out.later hb) HCH.out m9 HM9.out)
 by_cases t1 : m9 < 2000
 case neg =>
   have d1 : decide ((m9 : Int) < 2000) = false:=decide_eq_false (by omega)
   rw [d1] at HFEW
   clear t1 d1
   go_upto_region 17 with (go_at_call 13;refine (HFEW.out _ HBT.out).mono ?_;rintro e w5 ⟨rfl,hb5⟩;have hk5 : Kept [] T w5:=(Kept.refl _ _).call hb5;have HB5 : Hid (Below w.heap.size w w5):=Lib.hid (hk5.below HBT.out HBT.out.size (by simp)))
   go_wp2_with (go_at_call 14;refine (knows33_any _ (HGV.out.later HB5.out)).mono ?_;rintro e w9 ⟨rfl,hb9⟩)
   go_ret
   exact ⟨rfl,((Kept.refl [] w5).call hb9).below HB5.out HB5.out.size (by simp)⟩
 have d1 : decide ((m9 : Int) < 2000) = true:=decide_eq_true (by omega)
 rw [d1] at HFEW
 clear d1
 go_upto_region 18 with (go_at_call 13;refine (HFEW.out _ HBT.out).mono ?_;rintro e w5 ⟨rfl,hb5⟩)
 have hk5 : Kept [] T w5:=(Kept.refl _ _).call hb5
 have HB5 : Hid (Below w.heap.size w w5):=Lib.hid (hk5.below HBT.out HBT.out.size (by simp))
 have B05:=Lib.hid (hk5.blk (by simp) B0T.out)
 have ⟨L05,C05,F05⟩:=B05.out
 clear C0T F0T L0T
 have HA8 : Hid (∀ w9,Below w.heap.size w w9 → Calls Tryz.prog 15 #[.agg #[.slice A1 n1 c1,.slice A2 n2 c2,.int .i64 q.mn],.int .i64 q.mn,.int .i64 8,.int .i64 2000] w9 fun e w' => ∃ A c n,n = L8.length ∧ e = .returned (.tuple #[.slice A n c,.int .i64 0]) ∧ Below w9.heap.size w9 w'):=Lib.hid (fun w9 hb => by
   refine (rall_any A1 A2 n1 c1 n2 c2 q.mn q.mn 8 2000 q.ns q.es w9 (HGR.out.later hb) HCH.out (by omega) (by omega)).mono ?_
   rintro e w' ⟨A,c,n,hn,he,-,hb'⟩
   exact ⟨A,c,n,by rw [hn,HL8.out],he,hb'⟩)
 have HA9 : Hid (∀ w9,Below w.heap.size w w9 → Calls Tryz.prog 15 #[.agg #[.slice A1 n1 c1,.slice A2 n2 c2,.int .i64 q.mn],.int .i64 q.mn,.int .i64 9,.int .i64 2000] w9 fun e w' => ∃ A c n,n = m9 ∧ e = .returned (.tuple #[.slice A n c,.int .i64 0]) ∧ Below w9.heap.size w9 w'):=Lib.hid (fun w9 hb => by
   refine (rall_any A1 A2 n1 c1 n2 c2 q.mn q.mn 9 2000 q.ns q.es w9 (HGR.out.later hb) HCH.out (by omega) (by omega)).mono ?_
   rintro e w' ⟨A,c,n,hn,he,-,hb'⟩
   exact ⟨A,c,n,by rw [hn,HM9.out],he,hb'⟩)
 go_upto_region 19 with (go_at_call 15;refine (HA8.out _ HB5.out).mono ?_;rintro e w6 ⟨A8,c8,m8,hm8,rfl,hb6⟩;have HM8:=Lib.hid hm8;clear hm8)
 have hk6 : Kept [] w5 w6:=(Kept.refl _ _).call hb6
 have HB6 : Hid (Below w.heap.size w w6):=Lib.hid (hk6.below HB5.out HB5.out.size (by simp))
 have B06:=Lib.hid (hk6.blk (by simp) B05.out)
 have ⟨L06,C06,F06⟩:=B06.out
 clear C05 F05 L05
 go_upto_region 20 with (go_at_call 15;refine (HA9.out _ HB6.out).mono ?_;rintro e w7 ⟨A9,c9,m9',hm9',rfl,hb7⟩;have HM99:=Lib.hid hm9';clear hm9')
 have hk7 : Kept [] w6 w7:=(Kept.refl _ _).call hb7
 have HB7 : Hid (Below w.heap.size w w7):=Lib.hid (hk7.below HB6.out HB6.out.size (by simp))
 have B07:=Lib.hid (hk7.blk (by simp) B06.out)
 have ⟨L07,C07,F07⟩:=B07.out
 have hk47 : Kept [] T w7:=keptTrans (keptTrans hk5 hk6) hk7
 have HBG7:=Lib.hid (hk47.blk (by simp) HBGT.out)
 have HV7:=Lib.hid (HVT.out.keep hk47)
 clear C06 F06 L06
 by_cases t2 : m8 = m9'
 case neg =>
   have x2 : ((m8 : Int) != (m9' : Int)) = true:=by simp;omega
   have x3 : (m8 != m9') = true:=by simpa using t2
   clear t1 t2
   go_wp2_with (go_at_call 14;refine (knows33_any _ (HGV.out.later HB7.out)).mono ?_;rintro e w9 ⟨rfl,hb9⟩)
   go_ret
   exact ⟨rfl,((Kept.refl [] w7).call hb9).below HB7.out HB7.out.size (by simp)⟩
 subst t2
 have HALLP : Hid (∀ pth,(runS q.es q.mn [] pth).1 = 0 → pth ∈ L8):=Lib.hid (fun pth h => by
   rw [← HL8.out]
   exact itI_all (n:=9) (by rw [HM9.out];exact t1) ((congrArg List.length HL8.out).trans (HM8.out.symm.trans (HM99.out.trans HM9.out.symm))) pth h)
 have hf1 : 0 < f:=by have:=HOV.out.f1;have:=HEF.out;omega
 have HUP : Hid (∀ w9, Below w.heap.size w w9 → Calls Tryz.prog 16 #[.agg #[.slice A1 n1 c1, .slice A2 n2 c2, .int .i64 q.mn, .int .i64 q.F, .slice A3 n3 c3, .slice A4 n4 c4], .int .i64 8] w9 fun e w' =>
     ∃ (go cG : Nat) (rw rc : Nat → Nat) (M : Nat → Nat → U),e = .returned (.tuple #[.agg #[.slice (some ⟨go,0,none⟩) n1 cG],.int .i64 0]) ∧ Vw n1 f w' go rw rc M ∧ (∀ n d,n < n1 → d < f → S n d = M n d) ∧ Below w9.heap.size w9 w'):=Lib.hid (fun w9 hb => by
   have hFf : q.F = (f : Int):=by have:=HMM.out.2;have:=HEF.out;omega
   have h9:=rup34_any (p:=q) A1 A2 A3 A4 n1 c1 n2 c2 n3 c3 n4 c4 q.mn.toNat f w9 (HGR.out.later hb) (HLL.out.fl.later hb) (HLL.out.sd.later hb) HPE.out HLL.out.fit HLL.out.n4 (by omega) HMM.out.1 hFf L8 HL8.out
   rw [← hFf,← HMM.out.1] at h9
   refine h9.mono ?_
   rintro e w' ⟨go,cG,rw',rc,M,he,hV,hM,hb'⟩
   refine ⟨go,cG,rw',rc,M,he,hV,fun n d hn hd => ?_,hb'⟩
   apply Subtype.ext
   rw [hM n d]
   exact (meet_all HOV.out HLL.out.fit HI3.out L8 (fun pth hp => itI_out_sound 9 pth (by rw [← HL8.out] at hp;exact hp)) HALLP.out (by rw [← HN1.out.1];exact hn) (by rw [HEF.out];exact hd)).symm)
 go_upto_region 23 with (go_at_call 16;refine (HUP.out _ HB7.out).mono ?_;rintro e w8 ⟨go2,cG2,rw2,rc2,M,rfl,hV2,hM2,hb8⟩;have HV2:=Lib.hid hV2;have HM2:=Lib.hid hM2;clear hV2 hM2)
 refine wp_named (fun Y => ∃ gy,w8.heap.size = gy ∧ Blk Y gy [.slice (some ⟨go2,0,none⟩) n1 cG2] ∧ Kept [] w8 Y) ⟨_,rfl,Blk.new _ _ _ _ rfl,(Kept.refl _ _).alloc _⟩ ?_
 rintro Y ⟨gy,egy,Bgy,hkY⟩
 rw [egy]
 have hk7Y : Kept [] w7 Y:=((Kept.refl [] w7).call hb8).next hkY (by simp)
 have HBY : Hid (Below w.heap.size w Y):=Lib.hid (hk7Y.below HB7.out HB7.out.size (by simp))
 have HVY1:=Lib.hid (HV7.out.keep hk7Y)
 have HVY2:=Lib.hid (HV2.out.keep hkY)
 have ⟨L8Y,C8Y,F8Y⟩:=hk7Y.blk (by simp) HBG7.out
 have ⟨LGY,CGY,FGY⟩:=Bgy
 clear C07 F07 L07 egy hkY Bgy
 go_wp2_with (first | (go_at_call 17;refine (rsamev_eq _ HVY1.out HVY2.out HM2.out (by omega) (by omega)).mono ?_;rintro e w10 ⟨rfl,hb10⟩;have HB10 : Hid (Below w.heap.size w w10):=Lib.hid (((Kept.refl [] Y).call hb10).below HBY.out HBY.out.size (by simp))) | (go_at_call 14;refine (knows33_any _ (HGV.out.later HB10.out)).mono ?_;rintro e w9 ⟨rfl,hb9⟩))
 go_ret
 exact ⟨rfl,((Kept.refl [] w10).call hb9).below HB10.out HB10.out.size (by simp)⟩
end Go.Proofs.YtincpmdldpakkaaGreatDoor
namespace Go.Df
open Go.RowKit Go.ChangeShapes Go.WideShapes
section
variable {H : Type} {enc : TypeId × Value → H} {P : Program} {w : World} {base : Nat} {held : Bool}
theorem addr_add_add (a : Addr) (x y : Nat) : (a.add x).add y = a.add (x + y):=by
 by_cases hx : x = 0 <;> by_cases hy : y = 0 <;> simp [Addr.add,hx,hy,Nat.add_assoc]
theorem open_rowsI {t e : TypeId} {k fuel : Nat} {v : Value} {x : DataW H × List MemPlace} (ht : P.underlying t = some (.slice e)) (hC : P.cellsOf e = k) (hk : 0 < k)
   (hel : ∀ n cs' y,DataW.trod enc P w base (fun _ => true) held n e cs' = some y → ∃ zs : List Int,cs' = zs.map (Value.int .i64) ∧ ∀ q,q < k → (Lit.int .i64 (gi zs q)).wf = true)
   (h : DataW.trod enc P w base (fun _ => true) held fuel t [v] = some x) :
   ∃ A n c,∃ g : Nat → Nat → Int,v = .slice A n c ∧ n ≤ c ∧ (0 < n → ∃ b o,A = some ⟨b,o,none⟩ ∧ b < w.heap.size ∧ ∀ i,i < n → ∀ q,q < k → w.cell? ⟨b,o + i * k + q,none⟩ = some (.int .i64 (g i q))) ∧ ∀ i,i < n → ∀ q,q < k → (Lit.int .i64 (g i q)).wf = true:=by
 rcases Go.Deep.open_slice ht h with ⟨h0,_⟩ | ⟨a,len,cap,m,n,D,Pl,hcs,hbb,hl,hm,hmm,hx,hi⟩
 · injection h0 with h0
   exact ⟨none,0,0,fun _ _ => 0,h0,Nat.le_refl _,fun h => absurd h (by omega),fun i hi => absurd hi (by omega)⟩
 · injection hcs with hcs
   subst hcs
   have hread : ∀ i,i < len → ∃ zs : List Int,∀ q,q < k → w.cell? (a.add (i * k + q)) = some (.int .i64 (gi zs q)) ∧ (Lit.int .i64 (gi zs q)).wf = true:=by
     intro i hil
     obtain ⟨cs',hc,ht'⟩:=hi i (by rw [hmm];simp;omega)
     rw [hC] at hc
     obtain ⟨zs,rfl,hw⟩:=hel _ _ _ ht'
     refine ⟨zs,fun q hq => ⟨?_,hw q hq⟩⟩
     obtain ⟨h1,h2,h3⟩:=World.cells?_some hc
     have h4:=h3 q hq
     have h5 : q < zs.length:=by simp at h2;omega
     rw [map_gi h5] at h4
     have e1 : (a.add (i * k)).add q = a.add (i * k + q):=addr_add_add a _ _
     rw [← e1]
     exact h4
   have hex : ∃ f : Nat → List Int,∀ i,i < len → ∀ q,q < k → w.cell? (a.add (i * k + q)) = some (.int .i64 (gi (f i) q)) ∧ (Lit.int .i64 (gi (f i) q)).wf = true :=
     ⟨fun i => if hil : i < len then (hread i hil).choose else [],fun i hil => by simp only [dif_pos hil];exact (hread i hil).choose_spec⟩
   obtain ⟨f,hf⟩:=hex
   refine ⟨some a,len,cap,fun i q => gi (f i) q,rfl,hl,fun hp => ?_,fun i hi q hq => (hf i hi q hq).2⟩
   obtain ⟨b,o,sp⟩:=a
   have h0:=(hf 0 hp 0 hk).1
   have hsp : sp = none:=by
     cases sp with
     | none => rfl
     | some s =>
       exfalso
       simp only [World.cell?,Addr.add] at h0
       split at h0 <;> simp at h0
   subst hsp
   refine ⟨b,o,rfl,cell_lt (p:=⟨b,o,none⟩) (by have h9:=h0;rw [add_lit] at h9;simpa using h9),fun i hil q hq => ?_⟩
   have h8:=(hf i hil q hq).1
   rw [add_lit,← Nat.add_assoc] at h8
   exact h8
theorem cells3 {cs : List Value} {z0 z1 z2 : Int} (hl : cs.length = 3) (h0 : (cs.drop 0).take 1 = [.int .i64 z0]) (h1 : (cs.drop 1).take 1 = [.int .i64 z1]) (h2 : (cs.drop 2).take 1 = [.int .i64 z2]) : cs = [z0,z1,z2].map (Value.int .i64):=by
 match cs,hl with
 | [a,b,c],_ => simp at h0 h1 h2;simp [h0,h1,h2]
theorem cells4 {cs : List Value} {z0 z1 z2 z3 : Int} (hl : cs.length = 4) (h0 : (cs.drop 0).take 1 = [.int .i64 z0]) (h1 : (cs.drop 1).take 1 = [.int .i64 z1]) (h2 : (cs.drop 2).take 1 = [.int .i64 z2]) (h3 : (cs.drop 3).take 1 = [.int .i64 z3]) : cs = [z0,z1,z2,z3].map (Value.int .i64):=by
 match cs,hl with
 | [a,b,c,d],_ => simp at h0 h1 h2 h3;simp [h0,h1,h2,h3]
theorem gn_mk {n i : Nat} (h : i < n) (f : Nat → Sp.Nd) : gn ((List.range n).map f) i = f i:=by
 rw [gn_lt (by simpa using h)]
 simp
theorem ge_mk {n i : Nat} (h : i < n) (f : Nat → Sp.Ed) : ge ((List.range n).map f) i = f i:=by
 rw [ge_lt (by simpa using h)]
 simp
theorem gr_mk {A1 A2 : Option Addr} {n1 n2 : Nat} {g1 g2 : Nat → Nat → Int}
   (c1 : 0 < n1 → ∃ b o,A1 = some ⟨b,o,none⟩ ∧ b < w.heap.size ∧ ∀ i,i < n1 → ∀ q,q < 3 → w.cell? ⟨b,o + i * 3 + q,none⟩ = some (.int .i64 (g1 i q))) (w1 : ∀ i,i < n1 → ∀ q,q < 3 → (Lit.int .i64 (g1 i q)).wf = true)
   (c2 : 0 < n2 → ∃ b o,A2 = some ⟨b,o,none⟩ ∧ b < w.heap.size ∧ ∀ i,i < n2 → ∀ q,q < 4 → w.cell? ⟨b,o + i * 4 + q,none⟩ = some (.int .i64 (g2 i q))) (w2 : ∀ i,i < n2 → ∀ q,q < 4 → (Lit.int .i64 (g2 i q)).wf = true) :
   Gr w A1 n1 A2 n2 ((List.range n1).map (fun i => ⟨g1 i 0,g1 i 1,g1 i 2⟩)) ((List.range n2).map (fun i => ⟨g2 i 0,g2 i 1,g2 i 2,g2 i 3⟩)):=by
 refine ⟨⟨by simp,fun h => ?_⟩,⟨by simp,fun h => ?_⟩,fun j hj => ?_,fun j hj => ?_⟩
 · obtain ⟨b,o,e,hl,hc⟩:=c1 h
   refine ⟨b,o,e,hl,fun i hi => ?_⟩
   rw [gn_mk hi]
   exact ⟨hc i hi 0 (by omega),hc i hi 1 (by omega),hc i hi 2 (by omega)⟩
 · obtain ⟨b,o,e,hl,hc⟩:=c2 h
   refine ⟨b,o,e,hl,fun i hi => ?_⟩
   rw [ge_mk hi]
   exact ⟨hc i hi 0 (by omega),hc i hi 1 (by omega),hc i hi 2 (by omega),hc i hi 3 (by omega)⟩
 · rw [gn_mk hj]
   exact w1 j hj 0 (by omega)
 · rw [ge_mk hj]
   exact ⟨w2 j hj 0 (by omega),w2 j hj 1 (by omega)⟩
end
end Go.Df
namespace Go.Proofs.YtincpmdldpakkaaGreatDoor
open Go.RowKit Go.ChangeShapes Go.WideShapes Go.Joins Go.Df
theorem open_node {H : Type} {enc : TypeId × Value → H} {w : World} {base : Nat} {held : Bool} (n : Nat) (cs' : List Value) (y : DataW H × List MemPlace) (h : DataW.trod enc Tryz.prog w base (fun _ => true) held n 120 cs' = some y) : ∃ zs : List Int,cs' = zs.map (Value.int .i64) ∧ ∀ q,q < 3 → (Lit.int .i64 (gi zs q)).wf = true:=by
 obtain ⟨y0,y1,y2,m,-,hl,h0,h1,h2⟩:=Go.Deep.trod_struct3 Tryz.underlying120 h
 obtain ⟨z0,e0,-,w0⟩:=DataW.trod_int Tryz.underlying3 h0
 obtain ⟨z1,e1,-,w1⟩:=DataW.trod_int Tryz.underlying3 h1
 obtain ⟨z2,e2,-,w2⟩:=DataW.trod_int Tryz.underlying3 h2
 have hc3 : Tryz.prog.cellsOf 120 = 3:=by kernel_rfl
 have hc1 : Tryz.prog.cellsOf 3 = 1:=by kernel_rfl
 rw [hc3] at hl
 dsimp only at e0 e1 e2
 rw [hc1] at e0 e1 e2
 refine ⟨[z0,z1,z2],cells3 hl e0 e1 e2,fun q hq => ?_⟩
 match q,hq with
 | 0,_ => exact w0
 | 1,_ => exact w1
 | 2,_ => exact w2
theorem open_edge {H : Type} {enc : TypeId × Value → H} {w : World} {base : Nat} {held : Bool} (n : Nat) (cs' : List Value) (y : DataW H × List MemPlace) (h : DataW.trod enc Tryz.prog w base (fun _ => true) held n 43 cs' = some y) : ∃ zs : List Int,cs' = zs.map (Value.int .i64) ∧ ∀ q,q < 4 → (Lit.int .i64 (gi zs q)).wf = true:=by
 obtain ⟨y0,y1,y2,y3,m,-,hl,h0,h1,h2,h3⟩:=trod_struct4 Tryz.underlying43 h
 obtain ⟨z0,e0,-,w0⟩:=DataW.trod_int Tryz.underlying3 h0
 obtain ⟨z1,e1,-,w1⟩:=DataW.trod_int Tryz.underlying3 h1
 obtain ⟨z2,e2,-,w2⟩:=DataW.trod_int Tryz.underlying3 h2
 obtain ⟨z3,e3,-,w3⟩:=DataW.trod_int Tryz.underlying3 h3
 have hc3 : Tryz.prog.cellsOf 43 = 4:=by kernel_rfl
 have hc1 : Tryz.prog.cellsOf 3 = 1:=by kernel_rfl
 rw [hc3] at hl
 dsimp only at e0 e1 e2 e3
 rw [hc1] at e0 e1 e2 e3
 refine ⟨[z0,z1,z2,z3],cells4 hl e0 e1 e2 e3,fun q hq => ?_⟩
 match q,hq with
 | 0,_ => exact w0
 | 1,_ => exact w1
 | 2,_ => exact w2
 | 3,_ => exact w3
theorem open_gr {H : Type} {enc : TypeId × Value → H} {w : World} {base : Nat} {held : Bool} {f1 f2 : Nat} {v1 v2 : Value} {x1 x2 : DataW H × List MemPlace}
   (h1 : DataW.trod enc Tryz.prog w base (fun _ => true) held f1 22 [v1] = some x1) (h2 : DataW.trod enc Tryz.prog w base (fun _ => true) held f2 23 [v2] = some x2) :
   ∃ A1 n1 c1 A2 n2 c2 ns es,v1 = .slice A1 n1 c1 ∧ v2 = .slice A2 n2 c2 ∧ Gr w A1 n1 A2 n2 ns es:=by
 obtain ⟨A1,n1,c1,g1,rfl,-,k1,w1⟩:=open_rowsI Tryz.underlying22 (k:=3) (by kernel_rfl) (by omega) open_node h1
 obtain ⟨A2,n2,c2,g2,rfl,-,k2,w2⟩:=open_rowsI Tryz.underlying23 (k:=4) (by kernel_rfl) (by omega) open_edge h2
 exact ⟨A1,n1,c1,A2,n2,c2,_,_,rfl,rfl,gr_mk k1 w1 k2 w2⟩
end Go.Proofs.YtincpmdldpakkaaGreatDoor
