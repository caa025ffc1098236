/- Texts: Eo Fb Xa Ua Xt Yb. -/
import Derived.Test.YtincpmdldpakkaaGreatDoorMt09
import Derived.Test.YtincpmdldpakkaaGreatDoorMt12
import Derived.Test.YtincpmdldpakkaaGreatDoorMt08
import Derived.Lib.SlicesCompact
import Derived.Test.YtincpmdldpakkaaGreatDoorMt11
namespace Go.Proofs.YtincpmdldpakkaaGreatDoor
open Go.RowKit Go.Df
attribute [local go_sem ↓] Go.wp_at_zero Go.wp_at_succ
theorem runS_in {es : List Sp.Ed} : ∀ (path : List Int) {a : Int} {cs : List Int},(Sp.runS es a cs path).1 = 0 → ∀ j,j < path.length → 0 ≤ gi path j ∧ gi path j < es.length
 | [],_,_,_,j,hj => absurd hj (by simp)
 | k :: r,a,cs,h,j,hj => by
   rw [Sp.runS] at h
   split at h
   · rename_i h0;exact absurd h h0
   · rename_i h0
     have h1 : (Sp.stepS es a cs k).1 = 0:=Decidable.byContradiction h0
     have h2 : 0 ≤ k ∧ k < es.length:=by
       unfold Sp.stepS at h1
       split at h1
       · cases h1
       · omega
     cases j with
     | zero => simpa [gi] using h2
     | succ j =>
       have:=runS_in r h j (by simpa using hj)
       simpa [gi] using this
def alErr (ns : List Sp.Nd) (es : List Sp.Ed) (mn F : Int) (ls : List (List Sp.Xp)) (sd : List Sp.Vs) (path : List Int) : Int :=
 if Sp.ideErr ns es mn F ls sd ≠ 0 then Sp.ideErr ns es mn F ls sd else (Sp.followS ns es mn mn path).1
theorem follow_in {ns : List Sp.Nd} {es : List Sp.Ed} {mn fr : Int} {path : List Int} (h : (Sp.followS ns es mn fr path).1 = 0) : path.length ≤ 4096 ∧ ∀ j,j < path.length → 0 ≤ gi path j ∧ gi path j < es.length:=by
 unfold Sp.followS at h
 split at h
 · rename_i h0;exact absurd h h0
 · split at h
   · cases h
   · exact ⟨by omega,runS_in path h⟩
set_option maxRecDepth 100000 in
set_option maxHeartbeats 40000000 in
theorem ralong_any (A1 A2 A3 A4 A5 : Option Addr) (n1 c1 n2 c2 n3 c3 n4 c4 n5 c5 F : Nat) (mn : Int) (ns : List Sp.Nd) (es : List Sp.Ed) (ls : List (List Sp.Xp)) (sd : List Sp.Vs) (path : List Int) (w : World) (he : Eds w A2 n2 es) (hf : Fls w A3 n3 ls) (hs : Vss w A4 n4 sd) (hp : Ints w A5 n5 path) (hn4 : n4 ≤ 9223372036854775806)
   (hok : PrOk ns es mn F ls sd) (hpl : path.length ≤ 4096) (hpi : ∀ j,j < path.length → 0 ≤ gi path j ∧ gi path j < es.length) :
   Calls Tryz.prog 38 #[.agg #[.slice A1 n1 c1,.slice A2 n2 c2,.int .i64 mn,.int .i64 F,.slice A3 n3 c3,.slice A4 n4 c4],.slice A5 n5 c5] w fun e w' =>
     ∃ g c,e = .returned (.slice (some ⟨g,0,none⟩) F c) ∧ Vals w' g F (runJ Xf.rmeetV Xf.rapply es ls sd mn path path.length) ∧ w.heap.size ≤ g ∧ F ≤ c ∧ Below w.heap.size w w':=by
 have HE:=Lib.hid he
 have HF:=Lib.hid hf
 have HS:=Lib.hid hs
 have HP:=Lib.hid hp
 have HPN:=Lib.hid hp.1
 have HPI:=Lib.hid hpi
 have HO:=Lib.hid hok
 have hF1 : 1 ≤ F:=by have:=hok.f1;omega
 have hF2 : F ≤ 1024:=by have:=hok.f2;omega
 have HSD : Hid (∀ j,j < n4 → 0 ≤ (Sp.gs sd j).f ∧ (Sp.gs sd j).f < F):=fun j hj => by have:=HO.out.sin j (by rw [HS.out.1];exact hj);omega
 have hn5 : n5 ≤ 4096:=by have:=hp.1;omega
 clear he hf hs hp hpi hok hpl
 go_enter Tryz.func38,Tryz.ntmps38
 go_upto_region 1 with fail
 refine wp_named (fun W => ∃ b0,w.heap.size = b0 ∧ Blk W b0 [.slice A1 n1 c1,.slice A2 n2 c2,.int .i64 mn,.int .i64 F,.slice A3 n3 c3,.slice A4 n4 c4] ∧ Below w.heap.size w W) ⟨_,rfl,?_,?_⟩ ?_
 · exact kbn
 · go_grown
 rintro W ⟨b0,e0,B0,hB⟩
 rw [e0]
 have G0 : w.heap.size ≤ b0:=by omega
 clear e0
 have ⟨L0,C0,F0⟩:=B0
 have hkW : Kept [] w W:=(Kept.refl _ _).call hB
 have hWs:=hkW.size
 have hF0 : (0 : Int) < (F : Int):=by omega
 go_upto_region 2 with (go_at_call 43;refine (tops_any F _ hF1 hF2).mono ?_;rintro e w1 ⟨g,c,rfl,hv1,hg1,hc1,hb1⟩)
 have V1:=Lib.hid hv1
 have v0:=hv1.c0 0 (by omega)
 have v1:=hv1.c1 0 (by omega)
 have f0:=hv1.fz
 have hgr:=hv1.lt
 clear hv1
 have hgw : w.heap.size ≤ g:=by omega
 have hb0g : b0 ≠ g:=by omega
 go_upto_region 3 with fail
 refine wp_named (fun V => Vals V g F bot0 ∧ Kept [] W V) ⟨V1.out.put 0 ⟨2,0⟩ (by omega),(((Kept.refl [] W).call hb1).set g _ _ (.inr hg1)).set g _ _ (.inr hg1)⟩ ?_
 rintro V ⟨hVV,hkV⟩
 have VV:=Lib.hid hVV
 have hkwV : Kept [] w V:=keptTrans hkW hkV
 have ⟨LV,CV,FV⟩:=hkV.blk (by simp) B0
 clear hVV C0 F0 v0 v1 f0 hgr V1 hb1
 go_wp2_with (go_at_call 89;refine (rmet_any A1 A2 A3 A4 n1 c1 n2 c2 n3 c3 n4 c4 g F c mn F mn sd bot0 w _ HS.out hn4 hkwV.toBelow hgw VV.out HSD.out).mono ?_;rintro e w5 ⟨rfl,hv5,hk5⟩;have V5:=Lib.hid hv5;clear hv5)
 have hk5' : Kept [] W w5:=kept_fresh hkV hk5 (by simpa using hg1)
 have hEq : Hid (metS Xf.rmeetV sd mn bot0 n4 = runJ Xf.rmeetV Xf.rapply es ls sd mn path 0):=by
   show _ = _
   rw [runJ,HS.out.1]
 go_loopw [5,6] (fun s5 s6 wr => ∃ j g c : Nat,j ≤ n5 ∧ s5 = .slice (some ⟨g,0,none⟩) F c ∧ s6 = .int .i64 j ∧ Kept [] W wr ∧ Hid (Vals wr g F (runJ Xf.rmeetV Xf.rapply es ls sd mn path j)) ∧ w.heap.size ≤ g ∧ F ≤ c) (fun _ i _ => n5 - (intOf i).toNat)
 case atStart => exact ⟨0,g,c,Nat.zero_le _,rfl,rfl,hk5',Lib.hid (hEq.out ▸ V5.out),hgw,hc1⟩
 case round =>
   clear CV FV hc1 hgw hg1 V5 hk5 hk5' VV hEq hb0g
   obtain ⟨j,g2,c2',hj,rfl,rfl,hkr,vr,hg2,hc2'⟩:=hrel
   have hkwr : Kept [] w wr:=keptTrans hkW hkr
   have BR : Blk wr b0 _:=hkr.blk (by simp) B0
   have ⟨LR,CR,FR⟩:=BR
   by_cases hlt : j < n5
   case neg =>
     obtain rfl : j = n5:=by omega
     go_wp2_with fail
     go_ret
     exact ⟨g2,c2',rfl,by rw [HPN.out];exact vr.out,hg2,hc2',hkwr.toBelow⟩
   obtain ⟨b5,o5,rfl,hl5,hc5⟩:=HP.out.2 (by omega)
   have hpj:=HPI.out j (by rw [HPN.out];exact hlt)
   obtain ⟨k,hk⟩:=Int.eq_ofNat_of_zero_le hpj.1
   have r5 : wr.cell? ⟨b5,o5 + j,none⟩ = some (.int .i64 k):=by rw [← hk];exact (hkwr.cell b5 _ hl5 (by simp)).trans (hc5 j hlt)
   have hl5r : b5 < wr.heap.size:=Nat.lt_of_lt_of_le hl5 hkwr.size
   have hk2 : k < n2:=by have:=HE.out.1;omega
   have hk3 : k < n3:=by have:=HE.out.1;have:=HF.out.1;have:=HO.out.len;omega
   have HK:=Lib.hid hk
   have HPK:=Lib.hid (HO.out.pin k (by rw [HF.out.1];exact hk3))
   have hj1 : (j : Int) < (n5 : Int):=by omega
   clear hk hpj hc5
   have hEq : Hid (afterS Xf.rmeetV Xf.rapply sd (ge es k).b (Sp.gl ls k) (runJ Xf.rmeetV Xf.rapply es ls sd mn path j) = runJ Xf.rmeetV Xf.rapply es ls sd mn path (j + 1)):=by
     show _ = _
     rw [runJ,HK.out]
     rfl
   go_upto_region 7 with fail
   refine wp_region_E 7 (fun w' => SX0 wr w') (by kernel_rfl) (by (exact kp0)) (fun hHeld => ?_)
   refine WE_tk 0 ?_
   refine WE_tk 1 ?_
   refine WE_tk 2 ?_
   refine WE_tk 3 ?_
   refine WE_tk 4 ?_
   refine WE_tk 5 ?_
   refine WE_step 6 rfl (by kernel_rfl) (fun K hK => ?_)
   go_simp
   (go_at_call 90;refine (rafter_any A1 A2 A3 A4 n1 c1 n2 c2 n3 c3 n4 c4 g2 F c2' k mn es ls sd (runJ Xf.rmeetV Xf.rapply es ls sd mn path j) _ (HE.out.later (hkwr.drew).toBelow) (HF.out.later (hkwr.drew).toBelow) (HS.out.later (hkwr.drew).toBelow) hn4 (vr.out.kept ((Kept.refl [] _).drew) (by simp)) hF1 hF2 hk3 hk2 HPK.out.1 HPK.out.2 HSD.out).mono ?_;rintro e w6 ⟨g6,c6,rfl,hv6,hg6,hc6,hb6⟩;have V6:=Lib.hid hv6;clear hv6)
   (try go_wp2_with fail)
   refine hK.out _ _ ?_ (fun hHeld => ?_)
   · (exact kp0)
   clear hK K
   refine WE_put ?_
   refine WE_last rfl (by kernel_rfl) (fun K hK => ?_)
   go_simp
   refine hK.out _ _ ?_
   clear hK K
   have hk6 : Kept [] wr w6:=hHeld.1
   have hwd : w.heap.size ≤ wr.heap.size:=hkwr.size
   have hg6' : w.heap.size ≤ g6:=Nat.le_trans hwd hg6
   go_wp2_with fail
   exact ⟨⟨j + 1,g6,c6,by omega,rfl,by go_num,keptTrans hkr hk6,Lib.hid (hEq.out ▸ V6.out),hg6',hc6⟩,by simp [intOf];omega⟩
set_option maxRecDepth 100000 in
set_option maxHeartbeats 4000000 in
theorem rAlong_any (A1 A2 A3 A4 A5 : Option Addr) (n1 c1 n2 c2 n3 c3 n4 c4 n5 c5 : Nat) (mn F : Int) (ns : List Sp.Nd) (es : List Sp.Ed) (ls : List (List Sp.Xp)) (sd : List Sp.Vs) (path : List Int) (w : World) (hg : Gr w A1 n1 A2 n2 ns es) (hf : Fls w A3 n3 ls) (hs : Vss w A4 n4 sd) (hp : Ints w A5 n5 path) (hn4 : n4 ≤ 9223372036854775806)
   (er : Int) (her : alErr ns es mn F ls sd path = er) :
   Calls Tryz.prog 11 #[.agg #[.slice A1 n1 c1,.slice A2 n2 c2,.int .i64 mn,.int .i64 F,.slice A3 n3 c3,.slice A4 n4 c4],.slice A5 n5 c5] w fun e w' =>
     ((er ≠ 0 ∧ e = .returned (.tuple #[.slice none 0 0,.int .i64 er])) ∨ (er = 0 ∧ ∃ g c,e = .returned (.tuple #[.slice (some ⟨g,0,none⟩) F.toNat c,.int .i64 0]) ∧ Vals w' g F.toNat (runJ Xf.rmeetV Xf.rapply es ls sd mn path path.length) ∧ w.heap.size ≤ g ∧ F.toNat ≤ c)) ∧ Below w.heap.size w w':=by
 have HG:=Lib.hid hg
 have HF:=Lib.hid hf
 have HS:=Lib.hid hs
 have HP:=Lib.hid hp
 have HER:=Lib.hid her
 clear hg hf hs hp her
 go_enter Tryz.func11,Tryz.ntmps11
 go_upto_region 1 with fail
 refine wp_named (fun W => ∃ b0,w.heap.size = b0 ∧ Blk W b0 [.slice A1 n1 c1,.slice A2 n2 c2,.int .i64 mn,.int .i64 F,.slice A3 n3 c3,.slice A4 n4 c4] ∧ Below w.heap.size w W) ⟨_,rfl,?_,?_⟩ ?_
 · exact kbn
 · go_grown
 rintro W ⟨b0,e0,B0,hB⟩
 rw [e0]
 have G0 : w.heap.size ≤ b0:=by omega
 clear e0
 have ⟨L0,C0,F0⟩:=B0
 have hkW : Kept [] w W:=(Kept.refl _ _).call hB
 obtain ⟨ie,hie⟩ : ∃ ie,Sp.ideErr ns es mn F ls sd = ie:=⟨_,rfl⟩
 have HIE:=Lib.hid hie
 clear hie
 go_upto_region 2 with (go_at_call 9;refine (rideck_any A1 A2 A3 A4 n1 c1 n2 c2 n3 c3 n4 c4 mn F ns es ls sd _ (HG.out.nd.later hB) (HG.out.ed.later hB) (HF.out.later hB) (HS.out.later hB) (by omega)).mono ?_;rw [HIE.out];rintro e w1 ⟨rfl,hb1⟩)
 have hk1 : Kept [] W w1:=(Kept.refl _ _).call hb1
 have hkw1 : Kept [] w w1:=keptTrans hkW hk1
 have ⟨L1,C1,F1⟩:=hk1.blk (by simp) B0
 clear C0 F0
 by_cases h0 : ie = 0
 case neg =>
   have h0' : (ie != 0) = true:=by simpa using h0
   have hE : Hid (er = ie):=by show _ = _;rw [← HER.out];unfold alErr;rw [HIE.out,if_pos h0]
   have h0n : er ≠ 0:=by rw [hE.out];exact h0
   clear h0
   go_wp2_with fail
   go_ret2
   exact ⟨.inl ⟨h0n,by rw [hE.out];rfl⟩,hkw1.toBelow⟩
 subst h0
 have hE : Hid (er = (Sp.followS ns es mn mn path).1):=by show _ = _;rw [← HER.out];unfold alErr;rw [HIE.out,if_neg (by simp)]
 obtain ⟨fe,fa,fc,hfe⟩ : ∃ a b c,Sp.followS ns es mn mn path = (a,b,c):=⟨_,_,_,rfl⟩
 have HFE:=Lib.hid hfe
 clear hfe
 go_upto_region 5 with (go_at_call 37;refine (rcheck_any A1 A2 A5 n1 c1 n2 c2 n5 c5 mn mn ns es path _ (HG.out.kept hkw1) (HP.out.later hkw1.toBelow) fe fa fc HFE.out).mono ?_;rintro e w2 ⟨rfl,hb2⟩)
 have hk2 : Kept [] W w2:=hk1.call hb2
 have hkw2 : Kept [] w w2:=keptTrans hkW hk2
 have ⟨L2,C2,F2⟩:=hk2.blk (by simp) B0
 clear C1 F1
 have hE2 : Hid (er = fe):=by show _ = _;rw [hE.out,HFE.out]
 by_cases h0 : fe = 0
 case neg =>
   have h0' : (fe != 0) = true:=by simpa using h0
   have h0n : er ≠ 0:=by rw [hE2.out];exact h0
   clear h0
   go_wp2_with fail
   go_ret2
   exact ⟨.inl ⟨h0n,by rw [hE2.out];rfl⟩,hkw2.toBelow⟩
 subst h0
 have hok:=ide_parts HIE.out
 obtain ⟨Fn,rfl⟩:=Int.eq_ofNat_of_zero_le (show 0 ≤ F by have:=hok.f1;omega)
 have HO:=Lib.hid hok
 have HPI:=Lib.hid (follow_in (path:=path) (ns:=ns) (es:=es) (mn:=mn) (fr:=mn) (by rw [HFE.out]))
 clear hok
 go_wp2_with (go_at_call 38;refine (ralong_any A1 A2 A3 A4 A5 n1 c1 n2 c2 n3 c3 n4 c4 n5 c5 Fn mn ns es ls sd path _ (HG.out.kept hkw2).ed (HF.out.later hkw2.toBelow) (HS.out.later hkw2.toBelow) (HP.out.later hkw2.toBelow) hn4 HO.out HPI.out.1 HPI.out.2).mono ?_;rintro e w3 ⟨g,c,rfl,hv3,hg3,hc3,hb3⟩;have V3:=Lib.hid hv3;clear hv3)
 go_ret2
 exact ⟨.inr ⟨hE2.out,g,c,rfl,by simpa using V3.out,Nat.le_trans hkw2.size hg3,by simpa using hc3⟩,(hkw2.call hb3).toBelow⟩
end Go.Proofs.YtincpmdldpakkaaGreatDoor
namespace Go.Df
open Go.RowKit
abbrev SXo (X : List Nat) (ga gb : Nat) (W w' : World) : Prop:=Kept X W w' ∧ (∀ o,w'.cell? ⟨ga,o,none⟩ = W.cell? ⟨ga,o,none⟩) ∧ (∀ o,w'.cell? ⟨gb,o,none⟩ = W.cell? ⟨gb,o,none⟩)
theorem SXo.of {X : List Nat} {ga gb : Nat} {W w' : World} (h : Kept X W w') (ha : ga < W.heap.size) (hb : gb < W.heap.size) (xa : ga ∉ X) (xb : gb ∉ X) : SXo X ga gb W w':=⟨h,fun o => h.cell ga o ha xa,fun o => h.cell gb o hb xb⟩
theorem Rd.new2z (w : World) (b : Nat) (u v : Value) (t : TypeId) (hb : b = w.heap.size) : Rd (w.alloc (.cells #[u,v] t)) 2 (some ⟨b,0,none⟩) 1 [u,v]:=by
 subst hb
 refine ⟨rfl,fun _ => ⟨_,_,rfl,by simp,fun j _ => ?_⟩⟩
 rw [World.cell?_alloc_new,Nat.zero_add];simp
end Go.Df
namespace Go.Proofs.YtincpmdldpakkaaGreatDoor
open Go.RowKit Go.Df
attribute [local go_sem ↓] Go.wp_at_zero Go.wp_at_succ
def endS (es : List Sp.Ed) : Int → List Int → Int
 | a,[] => a
 | _,k :: r => endS es (ge es k.toNat).b r
theorem runS_end {es : List Sp.Ed} : ∀ (path : List Int) {a : Int} {cs : List Int},(Sp.runS es a cs path).1 = 0 → (Sp.runS es a cs path).2.1 = endS es a path
 | [],_,_,_ => rfl
 | k :: r,a,cs,h => by
   rw [Sp.runS] at h ⊢
   split at h
   · rename_i h0;exact absurd h h0
   · rename_i h0
     rw [if_neg h0]
     have h1 : (Sp.stepS es a cs k).1 = 0:=Decidable.byContradiction h0
     rw [runS_end r h,endS]
     congr 1
     unfold Sp.stepS at h1 ⊢
     split at h1
     · cases h1
     · rename_i x1
       rw [if_neg x1]
       split at h1
       · cases h1
       · rename_i x2
         rw [if_neg x2]
         split at h1
         · rename_i x3
           rw [if_pos x3]
           split at h1
           · cases h1
           · rename_i x4
             rw [if_neg x4]
         · rename_i x3
           rw [if_neg x3]
           split <;> rfl
theorem endS_last {es : List Sp.Ed} : ∀ (path : List Int) (a : Int),0 < path.length → endS es a path = (ge es (gi path (path.length - 1)).toNat).b
 | [],_,h => absurd h (by simp)
 | [k],_,_ => rfl
 | k :: l :: r,a,_ => by
   rw [endS,endS_last (l :: r) _ (by simp)]
   simp [gi]
set_option maxRecDepth 100000 in
set_option maxHeartbeats 4000000 in
theorem rend34_any (A1 A2 A5 : Option Addr) (n1 c1 n2 c2 n5 c5 : Nat) (mn : Int) (es : List Sp.Ed) (path : List Int) (w : World) (he : Eds w A2 n2 es) (hp : Ints w A5 n5 path) (hpi : ∀ j,j < path.length → 0 ≤ gi path j ∧ gi path j < es.length) (hpl : path.length ≤ 4096) (v : Int) (hv : endS es mn path = v) :
   Calls Tryz.prog 44 #[.agg #[.slice A1 n1 c1,.slice A2 n2 c2,.int .i64 mn],.slice A5 n5 c5] w fun e w' => e = .returned (.int .i64 v) ∧ Below w.heap.size w w':=by
 have HE:=Lib.hid he
 have HP:=Lib.hid hp
 have HN:=Lib.hid hp.1
 have HPI:=Lib.hid hpi
 have HV:=Lib.hid hv
 have hn5 : n5 ≤ 4096:=by have:=hp.1;omega
 clear he hp hpi hv hpl
 go_enter Tryz.func44,Tryz.ntmps44
 go_upto_region 1 with fail
 refine wp_named (fun W => ∃ b0,w.heap.size = b0 ∧ Blk W b0 [.slice A1 n1 c1,.slice A2 n2 c2,.int .i64 mn] ∧ Below w.heap.size w W) ⟨_,rfl,?_,?_⟩ ?_
 · exact kbn
 · go_grown
 rintro W ⟨b0,e0,B0,hB⟩
 rw [e0]
 have G0 : w.heap.size ≤ b0:=by omega
 clear e0
 have ⟨L0,C0,F0⟩:=B0
 have hkW : Kept [] w W:=(Kept.refl _ _).call hB
 by_cases h0 : n5 = 0
 · subst h0
   have hE : Hid (v = mn):=by
     show _ = _
     have : path = []:=List.eq_nil_of_length_eq_zero HN.out
     subst this
     rw [← HV.out]
     rfl
   go_wp2_with fail
   go_ret
   exact ⟨ret_int hE.out.symm,hB⟩
 have y1 : ((n5 : Int) == 0) = false:=by simp;omega
 have y2 : (n5 == 0) = false:=by simp;omega
 obtain ⟨b5,o5,rfl,hl5,hc5⟩:=HP.out.2 (by omega)
 have hpj:=HPI.out (n5 - 1) (by rw [HN.out];omega)
 obtain ⟨k,hk⟩:=Int.eq_ofNat_of_zero_le hpj.1
 have hk2 : k < n2:=by have:=HE.out.1;omega
 obtain ⟨b2,o2,rfl,hl2,hc2e⟩:=HE.out.cell2 hB hk2
 have r5 : W.cell? ⟨b5,o5 + (n5 - 1),none⟩ = some (.int .i64 k):=by rw [← hk];exact (hkW.cell b5 _ hl5 (by simp)).trans (hc5 (n5 - 1) (by omega))
 have hE : Hid ((ge es k).b = v):=by
   show _ = _
   rw [← HV.out,endS_last path mn (by rw [HN.out];omega),HN.out,hk]
   rfl
 rw [hE.out] at hc2e
 have hl5r : b5 < W.heap.size:=Nat.lt_of_lt_of_le hl5 hkW.size
 have hl2r : b2 < W.heap.size:=Nat.lt_of_lt_of_le hl2 hkW.size
 have hk2' : (k : Int) < (n2 : Int):=by omega
 have w3 : IntKind.i64.wrap ((n5 : Int) - 1) = (n5 : Int) - 1:=IntWalk.i64_in _ (by omega)
 have w4 : (0 : Int) ≤ (n5 : Int) - 1:=by omega
 have w5 : ((n5 : Int) - 1).toNat = n5 - 1:=by omega
 have w7 : (n5 : Int) - 1 < (n5 : Int):=by omega
 have w9 : 1 ≤ n5:=by omega
 have w10 : (1 : Int) ≤ (n5 : Int):=by omega
 clear hk hpj hc5 h0
 go_upto_region 3 with fail
 go_quiet (fail)
 go_wp2_with fail
 go_ret
 exact ⟨rfl,(hkW.drewN _).toBelow⟩
def vcellsF (f : Nat → Xf.V) : Nat → List Value
 | 0 => []
 | j + 1 => vcellsF f j ++ [.int .i64 (f j).k,.int .i64 (f j).n]
theorem vcellsF_len (f : Nat → Xf.V) : ∀ j,(vcellsF f j).length = j * 2
 | 0 => rfl
 | j + 1 => by rw [vcellsF,List.length_append,vcellsF_len f j];simp;omega
theorem vcellsF_at (f : Nat → Xf.V) : ∀ (j : Nat) {i : Nat},i < j → (vcellsF f j)[i * 2]? = some (.int .i64 (f i).k) ∧ (vcellsF f j)[i * 2 + 1]? = some (.int .i64 (f i).n)
 | 0,_,h => absurd h (by omega)
 | j + 1,i,h => by
   rw [vcellsF]
   rcases Nat.lt_or_ge i j with h9 | h9
   · rw [List.getElem?_append_left (by rw [vcellsF_len];omega),List.getElem?_append_left (by rw [vcellsF_len];omega)]
     exact vcellsF_at f j h9
   · obtain rfl : i = j:=by omega
     rw [List.getElem?_append_right (by rw [vcellsF_len];omega),List.getElem?_append_right (by rw [vcellsF_len];omega),vcellsF_len]
     simp
set_option maxRecDepth 100000 in
set_option maxHeartbeats 8000000 in
theorem rfold_any (ga gb F ca cb : Nat) (fa fb : Nat → Xf.V) (w : World) (h1 : 1 ≤ F) (h2 : F ≤ 1024) (hva : Vals w ga F fa) (hvb : Vals w gb F fb) :
   Calls Tryz.prog 45 #[.slice (some ⟨ga,0,none⟩) F ca,.slice (some ⟨gb,0,none⟩) F cb] w fun e w' => ∃ g c,e = .returned (.slice (some ⟨g,0,none⟩) F c) ∧ Vals w' g F (fun i => Xf.rmeetV (fa i) (fb i)) ∧ w.heap.size ≤ g ∧ F ≤ c ∧ Below w.heap.size w w':=by
 obtain ⟨i0,hi,hz0,hz1,hz2⟩:=info_parts val_info
 have HVA:=Lib.hid hva
 have HVB:=Lib.hid hvb
 have hla:=hva.lt
 have hlb:=hvb.lt
 clear hva hvb
 go_enter Tryz.func45,Tryz.ntmps45
 go_wp2_with fail
 go_loopw [5,6] (fun s5 s6 wr => ∃ (j : Nat) (A : Option Addr) (c : Nat),j ≤ F ∧ s5 = .slice A j c ∧ s6 = .int .i64 j ∧ Kept [] w wr ∧ Hid (wr.ownsRow w.heap.size 46 2 (.slice A j c) j (vcellsF (fun i => Xf.rmeetV (fa i) (fb i)) j))) (fun _ i _ => F - (intOf i).toNat)
 case atStart => exact ⟨0,none,0,Nat.zero_le _,rfl,rfl,Kept.refl _ _,Lib.hid (World.ownsRow_nil _ _ _ _)⟩
 case round =>
   obtain ⟨j,A,c,hj,rfl,rfl,hkr,own⟩:=hrel
   have hsz:=hkr.size
   by_cases hlt : j < F
   · obtain ⟨⟨ak,an⟩,ha⟩ : ∃ a,fa j = a:=⟨_,rfl⟩
     obtain ⟨⟨bk,bn⟩,hb⟩ : ∃ a,fb j = a:=⟨_,rfl⟩
     have a0:=(hkr.cell ga _ hla (by simp)).trans (HVA.out.c0 j hlt)
     have a1:=(hkr.cell ga _ hla (by simp)).trans (HVA.out.c1 j hlt)
     have b0:=(hkr.cell gb _ hlb (by simp)).trans (HVB.out.c0 j hlt)
     have b1:=(hkr.cell gb _ hlb (by simp)).trans (HVB.out.c1 j hlt)
     rw [ha] at a0 a1
     rw [hb] at b0 b1
     have HAB : Hid (vcellsF (fun i => Xf.rmeetV (fa i) (fb i)) (j + 1) = vcellsF (fun i => Xf.rmeetV (fa i) (fb i)) j ++ [.int .i64 (Xf.rmeetV ⟨ak,an⟩ ⟨bk,bn⟩).k,.int .i64 (Xf.rmeetV ⟨ak,an⟩ ⟨bk,bn⟩).n]):=by
       show _ = _
       rw [vcellsF,ha,hb]
     have HX : Hid (∀ y ∈ (Value.slice A j c).ownBlock.toList,w.heap.size ≤ y):=(fun y hy => own_ge own.out (by simpa using hy))
     have xa : ga ∉ (Value.slice A j c).ownBlock.toList:=fun hm => by have:=HX.out ga hm;omega
     have xb : gb ∉ (Value.slice A j c).ownBlock.toList:=fun hm => by have:=HX.out gb hm;omega
     have hga : ga < wr.heap.size:=by omega
     have hgb : gb < wr.heap.size:=by omega
     have hj1 : (j : Int) < (F : Int):=by omega
     clear ha hb
     go_upto_region 5 with fail
     refine wp_region_E 12 (fun w' => SXo (Value.slice A j c).ownBlock.toList ga gb wr w') (by kernel_rfl) (by (first | (with_reducible assumption) | exact SXo.of (Kept.refl _ _).drew hga hgb xa xb | exact SXo.of (hHeld.1.call (by assumption)) hga hgb xa xb | exact SXo.of (hHeld.1.alloc _) hga hgb xa xb | exact SXo.of (hHeld.1.next (by assumption) (fun y hy => Or.inl hy)) hga hgb xa xb)) (fun hHeld => ?_)
     refine WE_tk 0 ?_
     refine WE_tk 1 ?_
     refine WE_tk 2 ?_
     refine WE_tk 3 ?_
     refine WE_tk 4 ?_
     refine WE_tk 5 ?_
     refine WE_tk 6 ?_
     refine WE_tk 7 ?_
     refine WE_tk 8 ?_
     refine WE_step 9 rfl (by kernel_rfl) (fun K hK => ?_)
     go_simp
     (go_at_call 92;refine (rmeetV_any ak an bk bn _).mono ?_;rintro e w5 ⟨rfl,hb5⟩;have hk5:=Lib.hid (((Kept.refl [] wr).drew).call hb5))
     (try go_wp2_with fail)
     refine hK.out _ _ ?_ (fun hHeld => ?_)
     · (first | (with_reducible assumption) | exact SXo.of (Kept.refl _ _).drew hga hgb xa xb | exact SXo.of (hHeld.1.call (by assumption)) hga hgb xa xb | exact SXo.of (hHeld.1.alloc _) hga hgb xa xb | exact SXo.of (hHeld.1.next (by assumption) (fun y hy => Or.inl hy)) hga hgb xa xb)
     clear hK K
     refine WE_put ?_
     refine WE_step 10 rfl (by kernel_rfl) (fun K hK => ?_)
     go_simp
     refine hK.out _ _ ?_ (fun hHeld => ?_)
     · (first | (with_reducible assumption) | exact SXo.of (Kept.refl _ _).drew hga hgb xa xb | exact SXo.of (hHeld.1.call (by assumption)) hga hgb xa xb | exact SXo.of (hHeld.1.alloc _) hga hgb xa xb | exact SXo.of (hHeld.1.next (by assumption) (fun y hy => Or.inl hy)) hga hgb xa xb)
     clear hK K
     refine WE_put ?_
     refine WE_step 11 rfl (by kernel_rfl) (fun K hK => ?_)
     (refine step_append_rd _ rfl _ _ 39 rfl w.heap.size 46 i0 (.agg #[.int .i64 0,.int .i64 0]) 2 16 Tryz.underlying39 hi hz0 hz1 hz2 rfl (by decide) (.slice A j c) j _ rfl (own_keptK (X:=[]) own.out (hk5.out.alloc _) (by simp)) (some ⟨w5.heap.size,0,none⟩) 1 1 [.int .i64 (Xf.rmeetV ⟨ak,an⟩ ⟨bk,bn⟩).k,.int .i64 (Xf.rmeetV ⟨ak,an⟩ ⟨bk,bn⟩).n] rfl (Rd.new2z _ _ _ _ _ rfl) (fun h => by cases h) (by intro u hu;simp at hu;rcases hu with rfl | rfl <;> rfl) (j + 1) rfl _ HAB.out.symm (by unfold maxLen;omega) (by omega) (by have:=hk5.out.size;simp;omega) ?_;intro A9 c9 w4 hown4 hk4 hat4)
     refine hK.out _ _ ?_ (fun hHeld => ?_)
     · (first | (with_reducible assumption) | exact SXo.of (Kept.refl _ _).drew hga hgb xa xb | exact SXo.of (hHeld.1.call (by assumption)) hga hgb xa xb | exact SXo.of (hHeld.1.alloc _) hga hgb xa xb | exact SXo.of (hHeld.1.next (by assumption) (fun y hy => Or.inl hy)) hga hgb xa xb)
     clear hK K
     refine WE_put ?_
     refine WE_last rfl (by kernel_rfl) (fun K hK => ?_)
     go_simp
     refine hK.out _ _ ?_
     clear hK K
     have HO4:=Lib.hid hown4
     have hkw4 : Kept [] w w4:=kept_fresh hkr hHeld.1 HX.out
     clear hown4 hk4 hat4
     go_wp2_with fail
     exact ⟨⟨j + 1,A9,c9,by omega,rfl,by go_num,hkw4,HO4⟩,by simp [intOf];omega⟩
   · obtain rfl : j = F:=by omega
     obtain ⟨g,c',hv,hb,hg,hc,-,hcell,hfz⟩:=own_cells own.out (by omega)
     injection hv with e1 e2 e3
     subst e1
     subst e3
     have HV : Hid (Vals wr g j (fun i => Xf.rmeetV (fa i) (fb i))):=Lib.hid ⟨hg,fun i hi => by rw [hcell _ (by omega)];exact (vcellsF_at _ j hi).1,fun i hi => by rw [hcell _ (by omega)];exact (vcellsF_at _ j hi).2,hfz⟩
     clear hcell hfz hlt
     go_wp2_with fail
     go_ret
     exact ⟨g,c,rfl,HV.out,hb,hc,hkr.toBelow⟩
end Go.Proofs.YtincpmdldpakkaaGreatDoor
namespace Go.Df
open Go.RowKit
namespace If
def wfs (x : Int) (s : List Int × Bool) (y : Int) : List Int × Bool:=if s.2 = false ∧ x < y then (s.1 ++ [x] ++ [y],true) else (s.1 ++ [y],s.2)
def wfl (x : Int) (l : List Int) : List Int × Bool:=l.foldl (wfs x) ([],false)
def withF (l : List Int) (x : Int) : List Int:=if x ∈ l then l else if (wfl x l).2 = true then (wfl x l).1 else (wfl x l).1 ++ [x]
def ascF (l : List Int) : List Int:=l.foldl withF []
def joinF (a b : List Int) : List Int:=ascF (a ++ b)
def seedF (sd : List Sd) (nd : Int) : List Int:=(sd.filter fun s => decide (s.n = nd)).map (·.f)
def apO (f : List Pr) (l : List Int) : List Int:=(f.filter fun q => decide (q.o ≠ 0) && (decide (q.i = 0) || decide (q.i ∈ l))).map (·.o)
def applyF (f : List Pr) (l : List Int) : List Int:=ascF (apO f l)
def stepF (p : Pb) (l : List Int) (k : Int) : List Int:=joinF (applyF (gf p.fl k.toNat) l) (seedF p.sd (ge p.es k.toNat).b)
def alongF (p : Pb) (path : List Int) : List Int:=path.foldl (stepF p) (joinF (seedF p.sd p.mn) [])
def wfi (x : Int) (l : List Int) (i : Nat) : List Int × Bool:=(l.take i).foldl (wfs x) ([],false)
def foF (f s : List Int) (i : Nat) : List Int:=(f.take i).foldl withF s
def seedI (l : List Sd) (nd : Int) (i : Nat) : List Int:=seedF (l.take i) nd
def apI (f : List Pr) (l : List Int) (i : Nat) : List Int:=apO (f.take i) l
end If
namespace Rc
open Sp If
section
variable (es : List Ed) (m : Int)
inductive FR : Nat → Nat → Prop
 | main : FR m.toNat m.toNat
 | flow {s k : Nat} : k < es.length → ((ge es k).k = 1 ∨ (ge es k).k = 5) → FR s (ge es k).a.toNat → FR s (ge es k).b.toNat
 | call {s k : Nat} : k < es.length → (ge es k).k = 2 → FR s (ge es k).a.toNat → FR (ge es k).b.toNat (ge es k).b.toNat
 | ret {s c r : Nat} : c < es.length → (ge es c).k = 2 → r < es.length → ((ge es r).k = 3 ∨ (ge es r).k = 4) → (ge es r).c = (ge es c).a → FR s (ge es c).a.toNat → FR (ge es c).b.toNat (ge es r).a.toNat → FR s (ge es r).b.toNat
inductive RE : Nat → Prop
 | main : RE m.toNat
 | go {k : Nat} : k < es.length → ¬ ((ge es k).k = 3 ∨ (ge es k).k = 4) → RE (ge es k).a.toNat → RE (ge es k).b.toNat
 | ret {r : Nat} : r < es.length → ((ge es r).k = 3 ∨ (ge es r).k = 4) → RE (ge es r).a.toNat → RE (ge es r).c.toNat → RE (ge es r).b.toNat
end
variable {ns : List Nd} {es : List Ed} {m : Int} (hs : superErr ns es m = 0)
include hs
theorem call_edge {k : Nat} (hk : k < es.length) (h2 : (ge es k).k = 2) : (gn ns (ge es k).b.toNat).k = 1 ∧ (ge es k).c = (ge es k).a:=by
 have h1:=(sup_edge hs hk).2.2.2.2.2.2.2
 unfold fitsB fitsN at h1
 rw [if_neg (by omega),if_pos h2] at h1
 simp at h1
 exact ⟨h1.2,h1.1.2⟩
theorem flow_edge {k : Nat} (hk : k < es.length) (h2 : (ge es k).k = 1 ∨ (ge es k).k = 5) : (gn ns (ge es k).a.toNat).f = (gn ns (ge es k).b.toNat).f:=by
 have h1:=(sup_edge hs hk).2.2.2.2.2.2.2
 unfold fitsB fitsN at h1
 rw [if_pos h2] at h1
 simp at h1
 exact h1.1.1.1.1
theorem ret_edge {k : Nat} (hk : k < es.length) (h2 : (ge es k).k = 3 ∨ (ge es k).k = 4) :
   (gn ns (ge es k).b.toNat).f = (gn ns (ge es k).c.toNat).f ∧ ∃ c,c < es.length ∧ (ge es c).k = 2 ∧ (ge es c).a = (ge es k).c ∧ (gn ns (ge es c).b.toNat).f = (gn ns (ge es k).a.toNat).f:=by
 have h1:=(sup_edge hs hk).2.2.2.2.2.2.2
 unfold fitsB fitsN at h1
 rw [if_neg (by omega),if_neg (by omega)] at h1
 split at h1
 · cases h1
 · simp at h1
   refine ⟨h1.1.2,?_⟩
   have h3:=h1.1.1.2
   unfold callsB at h3
   rw [List.any_eq_true] at h3
   obtain ⟨e,he,h4⟩:=h3
   obtain ⟨c,hc,rfl⟩:=List.getElem_of_mem he
   unfold callB at h4
   simp at h4
   refine ⟨c,hc,?_⟩
   rw [ge_lt hc]
   exact ⟨h4.1.1.1.1.1,h4.1.1.1.1.2,h4.1.2⟩
theorem start_one {s t : Nat} (h1 : s < ns.length) (h2 : t < ns.length) (k1 : (gn ns s).k = 1) (k2 : (gn ns t).k = 1) (hf : (gn ns s).f = (gn ns t).f) : s = t:=by
 have hn:=ndOk_of (sup_parts hs).2.2.1
 have h3:=hn.ahead h1 h2 hf k1
 have h4:=hn.ahead h2 h1 hf.symm k2
 omega
end Rc
end Go.Df
namespace Go.Df
open Go.RowKit
namespace If
open Sp
def linkB (p : Pb) (k : Nat) (a b : Int) : Bool:=decide ((⟨a,b⟩ : Pr) ∈ gf p.fl k) || (decide (a = 0) && decide (b ∈ seedF p.sd (ge p.es k).b))
def rngErr (F : Int) (fs : List Int) (j : Nat) : Int:=if gi fs j < 0 ∨ F ≤ gi fs j then 4 else 0
def lnkErr (p : Pb) (ed fs : List Int) (j : Nat) : Int:=if linkB p (gi ed j).toNat (gi fs j) (gi fs (j + 1)) = false then 1 else 0
def factErr (p : Pb) (ed fs : List Int) : Int :=
 if fe (rngErr p.F fs) 0 fs.length ≠ 0 then fe (rngErr p.F fs) 0 fs.length
 else if gi fs 0 ≠ 0 ∧ gi fs 0 ∉ seedF p.sd p.mn then 1 else fe (lnkErr p ed fs) 0 ed.length
def trErr (p : Pb) (ed fs : List Int) : Int :=
 if pbErr p ≠ 0 then pbErr p else if fs.length ≠ ed.length + 1 then 20
 else if (followS p.ns p.es p.mn p.mn ed).1 ≠ 0 then (followS p.ns p.es p.mn p.mn ed).1 else factErr p ed fs
structure Tr (p : Pb) (ed fs : List Int) : Prop where
 len : fs.length = ed.length + 1
 rng : ∀ j,j < fs.length → 0 ≤ gi fs j ∧ gi fs j < p.F
 st : gi fs 0 = 0 ∨ gi fs 0 ∈ seedF p.sd p.mn
 lnk : ∀ j,j < ed.length → linkB p (gi ed j).toNat (gi fs j) (gi fs (j + 1)) = true
def SOK (p : Pb) : List Int → Nat → Nat → Prop
 | [],s,_ => s = p.mn.toNat
 | c :: cs,s,a => ∃ k q s' a',k < p.es.length ∧ (ge p.es k).k = 2 ∧ (ge p.es k).a = c ∧ (ge p.es k).b.toNat = s ∧ q ∈ gf p.fl k ∧ q.o.toNat = a ∧ PE p a' c.toNat q.i.toNat ∧ (gn p.ns c.toNat).f = (gn p.ns s').f ∧ SOK p cs s' a'
def ZOK (p : Pb) : List Int → Nat → Prop
 | [],s => s = p.mn.toNat
 | c :: cs,s => ∃ k s',k < p.es.length ∧ (ge p.es k).k = 2 ∧ (ge p.es k).a = c ∧ (ge p.es k).b.toNat = s ∧ PE p 0 c.toNat 0 ∧ (gn p.ns c.toNat).f = (gn p.ns s').f ∧ ZOK p cs s'
def IV (p : Pb) (n : Int) (d : Int) (cs : List Int) : Prop:=∃ s a,PE p a n.toNat d.toNat ∧ (gn p.ns n.toNat).f = (gn p.ns s).f ∧ SOK p cs s a
def IZ (p : Pb) (n : Int) (cs : List Int) : Prop:=∃ s,PE p 0 n.toNat 0 ∧ (gn p.ns n.toNat).f = (gn p.ns s).f ∧ ZOK p cs s
end If
end Go.Df
namespace Go.Df
open Go.RowKit
namespace If
open Sp Rc
inductive PES (p : Pb) : Nat → Nat → Nat → Nat → Prop
 | main : PES p p.mn.toNat 0 p.mn.toNat 0
 | seed {x : Nat} {s : Sd} : PES p x 0 s.n.toNat 0 → s ∈ p.sd → PES p x 0 s.n.toNat s.f.toNat
 | flow {x a k : Nat} {q : Pr} : k < p.es.length → ((ge p.es k).k = 1 ∨ (ge p.es k).k = 5) → q ∈ gf p.fl k → PES p x a (ge p.es k).a.toNat q.i.toNat → PES p x a (ge p.es k).b.toNat q.o.toNat
 | call {x a k : Nat} {q : Pr} : k < p.es.length → (ge p.es k).k = 2 → q ∈ gf p.fl k → PES p x a (ge p.es k).a.toNat q.i.toNat → PES p (ge p.es k).b.toNat q.o.toNat (ge p.es k).b.toNat q.o.toNat
 | ret {x a c r : Nat} {q s : Pr} : c < p.es.length → (ge p.es c).k = 2 → q ∈ gf p.fl c → r < p.es.length → ((ge p.es r).k = 3 ∨ (ge p.es r).k = 4) → s ∈ gf p.fl r → (ge p.es c).a = (ge p.es r).c →
     PES p x a (ge p.es c).a.toNat q.i.toNat → PES p (ge p.es c).b.toNat q.o.toNat (ge p.es r).a.toNat s.i.toNat → PES p x a (ge p.es r).b.toNat s.o.toNat
theorem PES.start {p : Pb} (h : Ok p) {x a n d : Nat} (hp : PES p x a n d) : x < p.ns.length ∧ n < p.ns.length ∧ (gn p.ns x).k = 1 ∧ (gn p.ns x).f = (gn p.ns n).f:=by
 have hm:=main_in (sup_parts h.sup).2.2.1
 induction hp with
 | main => exact ⟨by omega,by omega,hm.2.2,rfl⟩
 | seed _ _ ih => exact ih
 | flow hk h2 _ _ ih => have:=sup_edge h.sup hk;exact ⟨ih.1,by omega,ih.2.2.1,ih.2.2.2.trans (flow_edge h.sup hk h2)⟩
 | call hk h2 _ _ ih => have:=sup_edge h.sup hk;exact ⟨by omega,by omega,(call_edge h.sup hk h2).1,rfl⟩
 | ret hc h2 _ hr h3 _ h4 _ _ ih1 ih2 =>
   have:=sup_edge h.sup hr
   refine ⟨ih1.1,by omega,ih1.2.2.1,?_⟩
   rw [ih1.2.2.2,(ret_edge h.sup hr h3).1,h4]
def Al (p : Pb) (path : List Int) (d : Int) : Prop:=d = 0 ∨ d ∈ alongF p path
theorem runS_append {es : List Ed} : ∀ (pa pb : List Int) {a n : Int} {cs st : List Int},runS es a cs pa = (0,n,st) → runS es a cs (pa ++ pb) = runS es n st pb
 | [],pb,a,n,cs,st,h => by
   rw [runS] at h
   injection h with _ h
   injection h with h1 h2
   rw [List.nil_append,h1,h2]
 | k :: r,pb,a,n,cs,st,h => by
   rw [List.cons_append,runS]
   rw [runS] at h
   split at h
   · rename_i h0
     injection h with h1 _
     exact absurd h1 h0
   · rename_i h0
     rw [if_neg h0]
     exact runS_append r pb h
theorem runS_one {es : List Ed} {a n : Int} {cs st : List Int} {k : Int} (h : stepS es a cs k = (0,n,st)) : runS es a cs [k] = (0,n,st):=by
 rw [runS,if_neg (by rw [h];simp),h]
 rfl
def To (p : Pb) (path : List Int) (n : Nat) (st : List Int) : Prop:=runS p.es p.mn [] path = (0,(n : Int),st)
theorem To.more {p : Pb} {path : List Int} {n m : Nat} {st st' : List Int} {k : Nat} (h : To p path n st) (hs : stepS p.es n st k = (0,(m : Int),st')) : To p (path ++ [(k : Int)]) m st':=by
 unfold To at *
 rw [runS_append path [(k : Int)] h]
 exact runS_one hs
theorem step_flow {p : Pb} (ho : Ok p) {k : Nat} (hk : k < p.es.length) (h1 : (ge p.es k).k = 1 ∨ (ge p.es k).k = 5) (st : List Int) : stepS p.es (ge p.es k).a.toNat st k = (0,((ge p.es k).b.toNat : Int),st):=by
 have he:=sup_edge ho.sup hk
 unfold stepS
 rw [if_neg (by omega),Int.toNat_natCast,if_neg (by omega),if_neg (by omega),if_neg (by omega)]
 rw [show (((ge p.es k).b.toNat : Nat) : Int) = (ge p.es k).b by omega]
theorem step_call {p : Pb} (ho : Ok p) {k : Nat} (hk : k < p.es.length) (h1 : (ge p.es k).k = 2) (st : List Int) : stepS p.es (ge p.es k).a.toNat st k = (0,((ge p.es k).b.toNat : Int),(ge p.es k).a :: st):=by
 have he:=sup_edge ho.sup hk
 unfold stepS
 rw [if_neg (by omega),Int.toNat_natCast,if_neg (by omega),if_neg (by omega),if_pos h1]
 rw [show (((ge p.es k).b.toNat : Nat) : Int) = (ge p.es k).b by omega,show (((ge p.es k).a.toNat : Nat) : Int) = (ge p.es k).a by omega]
theorem step_ret {p : Pb} (ho : Ok p) {k : Nat} (hk : k < p.es.length) (h1 : (ge p.es k).k = 3 ∨ (ge p.es k).k = 4) (st : List Int) : stepS p.es (ge p.es k).a.toNat ((ge p.es k).c :: st) k = (0,((ge p.es k).b.toNat : Int),st):=by
 have he:=sup_edge ho.sup hk
 unfold stepS
 rw [if_neg (by omega),Int.toNat_natCast,if_neg (by omega),if_pos h1,if_neg (by simp [gi])]
 rw [show (((ge p.es k).b.toNat : Nat) : Int) = (ge p.es k).b by omega]
 rfl
end If
end Go.Df
