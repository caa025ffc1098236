/- Texts: Eiz Ejz En Ee Mb. -/
import Derived.Test.YtincpmdldpakkaaGreatDoorMt07
import Derived.Test.YtincpmdldpakkaaGreatDoorMt08
import Derived.Test.YtincpmdldpakkaaGreatDoorMt06
import Derived.Test.YtincpmdldpakkaaGreatDoorRows
namespace Go.Proofs.YtincpmdldpakkaaGreatDoor
open Go.RowKit Go.Df
attribute [local go_sem ↓] Go.wp_at_zero Go.wp_at_succ
set_option maxRecDepth 100000 in
set_option maxHeartbeats 40000000 in
theorem rmet_any (A1 A2 A3 A4 : Option Addr) (n1 c1 n2 c2 n3 c3 n4 c4 g F c : Nat) (mn FF nd : Int) (sd : List Sp.Vs) (f : Nat → Xf.V) (w0 w : World) (hs : Vss w0 A4 n4 sd) (hn4 : n4 ≤ 9223372036854775806) (hB0 : Below w0.heap.size w0 w) (hg0 : w0.heap.size ≤ g) (hv : Vals w g F f)
   (hsd : ∀ j,j < n4 → 0 ≤ (Sp.gs sd j).f ∧ (Sp.gs sd j).f < F) :
   Calls Tryz.prog 89 #[.agg #[.slice A1 n1 c1,.slice A2 n2 c2,.int .i64 mn,.int .i64 FF,.slice A3 n3 c3,.slice A4 n4 c4],.int .i64 nd,.slice (some ⟨g,0,none⟩) F c] w fun e w' =>
     e = .returned (.slice (some ⟨g,0,none⟩) F c) ∧ Vals w' g F (metS Xf.rmeetV sd nd f n4) ∧ Kept [g] w w':=by
 have HS:=Lib.hid hs
 have HV:=Lib.hid hv
 have HSD:=Lib.hid hsd
 have hgl:=hv.lt
 clear hs hv hsd
 go_enter Tryz.func89,Tryz.ntmps89
 go_upto_region 1 with fail
 refine wp_named (fun W => ∃ b0,w.heap.size = b0 ∧ Blk W b0 [.slice A1 n1 c1,.slice A2 n2 c2,.int .i64 mn,.int .i64 FF,.slice A3 n3 c3,.slice A4 n4 c4] ∧ Below w.heap.size w W) ⟨_,rfl,?_,?_⟩ ?_
 · exact kbn
 · go_grown
 rintro W ⟨b0,e0,B0,hB⟩
 rw [e0]
 have G0 : w.heap.size ≤ b0:=by omega
 clear e0
 have ⟨L0,C0,F0⟩:=B0
 have hkW : Kept [] w W:=(Kept.refl _ _).call hB
 have hb0g : b0 ≠ g:=by omega
 have VW:=Lib.hid (HV.out.kept hkW (by simp))
 go_wp2_with fail
 go_loopw [7] (fun i wr => ∃ j : Nat,j ≤ n4 ∧ i = .int .i64 j ∧ Kept [g] W wr ∧ Hid (Vals wr g F (metS Xf.rmeetV sd nd f j))) (fun i _ => n4 - (intOf i).toNat)
 case atStart => exact ⟨0,Nat.zero_le _,rfl,Kept.refl _ _,VW⟩
 case round =>
   obtain ⟨j,hj,rfl,hkr,vr⟩:=hrel
   have BR:=hkr.blk (by simp;omega) B0
   have ⟨LR,CR,FR⟩:=BR
   have hkwr : Kept [g] w wr:=((Kept.refl [g] w).next hkW (by simp)).next hkr (by simp)
   have hB0r : Below w0.heap.size w0 wr:=hkwr.below hB0 hB0.size (by simp;omega)
   clear C0 F0
   by_cases hlt : j < n4
   case neg =>
     obtain rfl : j = n4:=by omega
     go_wp2_with fail
     go_ret
     exact ⟨rfl,vr.out,hkwr⟩
   obtain ⟨b,o,rfl,hl,hc⟩:=HS.out.2 (by omega)
   obtain ⟨h1,h2,h3,h4⟩:=hc j hlt
   clear hc
   obtain ⟨sn,sf,sk,sv,en⟩ : ∃ sn sf sk sv,Sp.gs sd j = ⟨sn,sf,sk,sv⟩:=⟨_,_,_,_,rfl⟩
   have hsf:=HSD.out j hlt
   rw [en] at h1 h2 h3 h4 hsf
   dsimp only at h1 h2 h3 h4 hsf
   have r1 : wr.cell? ⟨b,o + j * 4,none⟩ = some (.int .i64 sn):=(hB0r.cell (p:=⟨b,_,none⟩) hl).trans h1
   have r2 : wr.cell? ⟨b,o + j * 4 + 1,none⟩ = some (.int .i64 sf):=(hB0r.cell (p:=⟨b,_,none⟩) hl).trans h2
   have r3 : wr.cell? ⟨b,o + j * 4 + 2,none⟩ = some (.int .i64 sk):=(hB0r.cell (p:=⟨b,_,none⟩) hl).trans h3
   have r4 : wr.cell? ⟨b,o + j * 4 + 3,none⟩ = some (.int .i64 sv):=(hB0r.cell (p:=⟨b,_,none⟩) hl).trans h4
   have hbg : b ≠ g:=by omega
   have hlr : b < wr.heap.size:=Nat.lt_of_lt_of_le hl hB0r.size
   have HE:=Lib.hid en
   clear en h1 h2 h3 h4
   by_cases e1 : sn = nd
   · have e1' : (sn == nd) = true:=by simpa using e1
     obtain ⟨x,rfl⟩:=Int.eq_ofNat_of_zero_le hsf.1
     have hx : x < F:=by omega
     obtain ⟨u,hu⟩ : ∃ u,metS Xf.rmeetV sd nd f j x = u:=⟨_,rfl⟩
     have v0:=vr.out.c0 x hx
     have v1:=vr.out.c1 x hx
     rw [hu] at v0 v1
     obtain ⟨uk,un⟩:=u
     have f0:=vr.out.fz
     have hgr:=vr.out.lt
     have hx1 : (x : Int) < (F : Int):=by omega
     have hj1 : (j : Int) < (n4 : Int):=by omega
     have HU:=Lib.hid hu
     have HE1:=Lib.hid e1
     clear hu e1
     go_upto_region 5 with fail
     refine wp_region_E 24 (fun w' => SX0 wr w') (by kernel_rfl) (by (exact kp0)) (fun hHeld => ?_)
     refine WE_tk 0 ?_
     refine WE_tk 1 ?_
     refine WE_tk 2 ?_
     refine WE_tk 3 ?_
     refine WE_tk 4 ?_
     refine WE_tk 5 ?_
     refine WE_tk 6 ?_
     refine WE_tk 7 ?_
     refine WE_tk 8 ?_
     refine WE_tk 9 ?_
     refine WE_tk 10 ?_
     refine WE_tk 11 ?_
     refine WE_tk 12 ?_
     refine WE_tk 13 ?_
     refine WE_tk 14 ?_
     refine WE_tk 15 ?_
     refine WE_tk 16 ?_
     refine WE_tk 17 ?_
     refine WE_tk 18 ?_
     refine WE_tk 19 ?_
     refine WE_tk 20 ?_
     refine WE_tk 21 ?_
     refine WE_step 22 rfl (by kernel_rfl) (fun K hK => ?_)
     go_simp
     (go_at_call 92;refine (rmeetV_any uk un sk sv _).mono ?_;rintro e w5 ⟨rfl,hb5⟩)
     (try go_wp2_with fail)
     refine hK.out _ _ ?_ (fun hHeld => ?_)
     · (exact kp0)
     clear hK K
     refine WE_put ?_
     refine WE_tk 23 ?_
     refine WE_last rfl (by kernel_rfl) (fun K hK => ?_)
     go_simp
     refine hK.out _ _ ?_
     clear hK K
     have hk5 : Kept [] wr w5:=hHeld.1
     have V5:=Lib.hid (vr.out.kept hk5 (by simp))
     have hX : Hid ((fun i => if i = x then Xf.rmeetV ⟨uk,un⟩ ⟨sk,sv⟩ else metS Xf.rmeetV sd nd f j i) = metS Xf.rmeetV sd nd f (j + 1)):=by
       show _ = _
       funext i
       rw [metS,HE.out]
       dsimp only
       by_cases hi : i = x
       · subst hi;rw [if_pos rfl,if_pos ⟨HE1.out,by simp⟩,HU.out]
       · rw [if_neg hi,if_neg (fun hh => hi (by simpa using hh.2))]
     go_wp2_with fail
     exact ⟨⟨j + 1,by omega,by go_num,((hkr.next hk5 (by simp)).set g _ _ (.inl (by simp))).set g _ _ (.inl (by simp)),Lib.hid (hX.out ▸ V5.out.put x _ hx)⟩,by simp [intOf];omega⟩
   · have e1' : (sn == nd) = false:=by simpa using e1
     have HM : Hid (metS Xf.rmeetV sd nd f (j + 1) = metS Xf.rmeetV sd nd f j):=by
       show _ = _
       funext i
       rw [metS,HE.out,if_neg (fun hh => e1 hh.1)]
     clear e1
     go_wp2_with fail
     exact ⟨⟨j + 1,by omega,by go_num,hkr,Lib.hid (by rw [HM.out];exact vr.out)⟩,by simp [intOf];omega⟩
end Go.Proofs.YtincpmdldpakkaaGreatDoor
namespace Go.Proofs.YtincpmdldpakkaaGreatDoor
open Go.RowKit Go.Df
namespace Xf
def ok (v : V) : Prop:=(v.k = 0 ∧ v.n = 0) ∨ v.k = 1 ∨ (v.k = 2 ∧ v.n = 0)
end Xf
def SdOk (sd : List Sp.Vs) : Prop:=∀ j,j < sd.length → Xf.ok ⟨(Sp.gs sd j).k,(Sp.gs sd j).v⟩
structure PrOk (ns : List Sp.Nd) (es : List Sp.Ed) (mn F : Int) (ls : List (List Sp.Xp)) (sd : List Sp.Vs) : Prop where
 sup : Sp.superErr ns es mn = 0
 f1 : 1 ≤ F
 f2 : F ≤ 1024
 len : ls.length = es.length
 pin : ∀ k,k < ls.length → (Sp.gl ls k).length ≤ 8192 ∧ ∀ j,j < (Sp.gl ls k).length → 0 ≤ (Sp.gx (Sp.gl ls k) j).i ∧ (Sp.gx (Sp.gl ls k) j).i < F ∧ 0 ≤ (Sp.gx (Sp.gl ls k) j).o ∧ (Sp.gx (Sp.gl ls k) j).o < F
 sin : ∀ j,j < sd.length → 1 ≤ (Sp.gs sd j).f ∧ (Sp.gs sd j).f < F
 sok : SdOk sd
 srt : ∀ j,j + 1 < sd.length → (Sp.gs sd j).n ≤ (Sp.gs sd (j + 1)).n
theorem fe_zero {g : Nat → Int} : ∀ (n i : Nat),Sp.fe g i n = 0 → ∀ j,i ≤ j → j < i + n → g j = 0
 | 0,i,_,j,h1,h2 => by omega
 | n + 1,i,h,j,h1,h2 => by
   unfold Sp.fe at h
   split at h
   · rename_i h0
     by_cases e : j = i
     · subst e;exact h0
     · exact fe_zero n (i + 1) h j (by omega) (by omega)
   · rename_i h0
     exact absurd h h0
theorem ide_parts {ns : List Sp.Nd} {es : List Sp.Ed} {mn F : Int} {ls : List (List Sp.Xp)} {sd : List Sp.Vs} (h : Sp.ideErr ns es mn F ls sd = 0) : PrOk ns es mn F ls sd:=by
 unfold Sp.ideErr at h
 by_cases h1 : Sp.superErr ns es mn = 0
 case neg => rw [if_pos h1] at h;exact absurd h h1
 rw [if_neg (not_not_intro h1)] at h
 by_cases h2 : F < 1 ∨ 1024 < F
 · rw [if_pos h2] at h;cases h
 rw [if_neg h2] at h
 by_cases h3 : ls.length = es.length
 case neg => rw [if_pos h3] at h;cases h
 rw [if_neg (not_not_intro h3)] at h
 by_cases h4 : Sp.fe (fun i => Sp.pairsErr F (Sp.gl ls i)) 0 ls.length = 0
 case neg => rw [if_pos h4] at h;exact absurd h h4
 rw [if_neg (not_not_intro h4)] at h
 have hP:=fun k (hk : k < ls.length) => fe_zero _ _ h4 k (Nat.zero_le _) (by omega)
 have hS:=fun j (hj : j < sd.length) => fe_zero _ _ h j (Nat.zero_le _) (by omega)
 refine ⟨h1,by omega,by omega,h3,fun k hk => ?_,fun j hj => ?_,fun j hj => ?_,fun j hj => ?_⟩
 · have:=hP k hk
   unfold Sp.pairsErr at this
   by_cases l8 : 8192 < (Sp.gl ls k).length
   · rw [if_pos l8] at this;cases this
   rw [if_neg l8] at this
   refine ⟨by omega,fun j hj => ?_⟩
   by_cases h5 : Sp.fe (Sp.pairErr F (Sp.gl ls k)) 0 (Sp.gl ls k).length = 0
   case neg => rw [if_pos h5] at this;exact absurd this h5
   have h6:=fe_zero _ _ h5 j (Nat.zero_le _) (by omega)
   unfold Sp.pairErr at h6
   split at h6
   · cases h6
   · omega
 · have:=hS j hj
   unfold Sp.seedErr at this
   split at this
   · cases this
   · omega
 · have:=hS j hj
   unfold Sp.seedErr at this
   split at this
   · cases this
   · split at this
     · rename_i hv;exact absurd this hv
     · rename_i hv
       have hv0 : Sp.verr (Sp.gs sd j).k (Sp.gs sd j).v = 0:=Decidable.byContradiction hv
       unfold Sp.verr at hv0
       unfold Xf.ok
       dsimp only
       split at hv0
       · cases hv0
       · split at hv0
         · cases hv0
         · omega
 · have:=hS (j + 1) hj
   unfold Sp.seedErr at this
   split at this
   · cases this
   · split at this
     · rename_i hv;exact absurd this hv
     · split at this
       · cases this
       · rename_i hv
         have hl : Sp.lessS (Sp.gs sd j) (Sp.gs sd (j + 1)) = true:=by
           cases hh : Sp.lessS (Sp.gs sd j) (Sp.gs sd (j + 1)) with
           | true => rfl
           | false => exact absurd ⟨Nat.succ_pos _,hh⟩ hv
         unfold Sp.lessS at hl
         split at hl
         · simp at hl;omega
         · omega
end Go.Proofs.YtincpmdldpakkaaGreatDoor
namespace Go.Df
open Go.RowKit
abbrev SXk (W : World) (x : Nat) (w' : World) : Prop :=
 Kept [x] W w' ∧ (∀ b o,b < W.heap.size → b ≠ x → w'.cell? ⟨b,o,none⟩ = W.cell? ⟨b,o,none⟩) ∧ (∀ b o,b < W.heap.size → b ≠ x → w'.frozen? ⟨b,o,none⟩ = W.frozen? ⟨b,o,none⟩)
theorem SXk.of {W w' : World} {x : Nat} (h : Kept [x] W w') : SXk W x w':=⟨h,fun b o hb hx => h.cell b o hb (by simpa using hx),fun b o hb hx => h.frozen b o hb (by simpa using hx)⟩
theorem Xps.cells {w0 w : World} {A : Option Addr} {n : Nat} {l : List Sp.Xp} (h : Xps w0 A n l) (hb : Below w0.heap.size w0 w) {j : Nat} (hj : j < n) {xi xo xk xb xc : Int} (e : Sp.gx l j = ⟨xi,xo,xk,xb,xc⟩) :
   ∃ b o,A = some ⟨b,o,none⟩ ∧ b < w0.heap.size ∧ w.cell? ⟨b,o + j * 5,none⟩ = some (.int .i64 xi) ∧ w.cell? ⟨b,o + j * 5 + 1,none⟩ = some (.int .i64 xo) ∧ w.cell? ⟨b,o + j * 5 + 2,none⟩ = some (.int .i64 xk) ∧ w.cell? ⟨b,o + j * 5 + 3,none⟩ = some (.int .i64 xb) ∧ w.cell? ⟨b,o + j * 5 + 4,none⟩ = some (.int .i64 xc):=by
 obtain ⟨b,o,rfl,hl,hc⟩:=h.2 (by omega)
 obtain ⟨h1,h2,h3,h4,h5⟩:=hc j hj
 rw [e] at h1 h2 h3 h4 h5
 exact ⟨b,o,rfl,hl,(hb.cell (p:=⟨b,_,none⟩) hl).trans h1,(hb.cell (p:=⟨b,_,none⟩) hl).trans h2,(hb.cell (p:=⟨b,_,none⟩) hl).trans h3,(hb.cell (p:=⟨b,_,none⟩) hl).trans h4,(hb.cell (p:=⟨b,_,none⟩) hl).trans h5⟩
theorem Fls.rowF {w0 w : World} {A : Option Addr} {n : Nat} {ls : List (List Sp.Xp)} (h : Fls w0 A n ls) (hb : Below w0.heap.size w0 w) {j : Nat} (hj : j < n) :
   ∃ b o Ai ni ci,A = some ⟨b,o,none⟩ ∧ b < w0.heap.size ∧ w.cell? ⟨b,o + j,none⟩ = some (.slice Ai ni ci) ∧ Xps w0 Ai ni (Sp.gl ls j):=by
 obtain ⟨b,o,rfl,hl,hc⟩:=h.2 (by omega)
 obtain ⟨Ai,ni,ci,h1,h2⟩:=hc j hj
 exact ⟨b,o,Ai,ni,ci,rfl,hl,(hb.cell (p:=⟨b,_,none⟩) hl).trans h1,h2⟩
theorem Eds.cell2 {w0 w : World} {A : Option Addr} {n : Nat} {es : List Sp.Ed} (h : Eds w0 A n es) (hb : Below w0.heap.size w0 w) {j : Nat} (hj : j < n) :
   ∃ b o,A = some ⟨b,o,none⟩ ∧ b < w0.heap.size ∧ w.cell? ⟨b,o + j * 4 + 1,none⟩ = some (.int .i64 (ge es j).b):=by
 obtain ⟨b,o,rfl,hl,hc⟩:=h.2 (by omega)
 exact ⟨b,o,rfl,hl,(hb.cell (p:=⟨b,_,none⟩) hl).trans (hc j hj).2.1⟩
end Go.Df
namespace Go.Proofs.YtincpmdldpakkaaGreatDoor
open Go.RowKit Go.Df
attribute [local go_sem ↓] Go.wp_at_zero Go.wp_at_succ
set_option maxRecDepth 100000 in
set_option maxHeartbeats 40000000 in
theorem rafter_any (A1 A2 A3 A4 : Option Addr) (n1 c1 n2 c2 n3 c3 n4 c4 gl F cl k : Nat) (mn : Int) (es : List Sp.Ed) (ls : List (List Sp.Xp)) (sd : List Sp.Vs) (f : Nat → Xf.V) (w : World) (he : Eds w A2 n2 es) (hf : Fls w A3 n3 ls) (hs : Vss w A4 n4 sd) (hn4 : n4 ≤ 9223372036854775806) (hv : Vals w gl F f)
   (hF1 : 1 ≤ F) (hF2 : F ≤ 1024) (hk3 : k < n3) (hk2 : k < n2) (hpl : (Sp.gl ls k).length ≤ 8192) (hpr : ∀ j,j < (Sp.gl ls k).length → 0 ≤ (Sp.gx (Sp.gl ls k) j).i ∧ (Sp.gx (Sp.gl ls k) j).i < F ∧ 0 ≤ (Sp.gx (Sp.gl ls k) j).o ∧ (Sp.gx (Sp.gl ls k) j).o < F)
   (hsd : ∀ j,j < n4 → 0 ≤ (Sp.gs sd j).f ∧ (Sp.gs sd j).f < F) :
   Calls Tryz.prog 90 #[.agg #[.slice A1 n1 c1,.slice A2 n2 c2,.int .i64 mn,.int .i64 F,.slice A3 n3 c3,.slice A4 n4 c4],.int .i64 k,.slice (some ⟨gl,0,none⟩) F cl] w fun e w' =>
     ∃ g c,e = .returned (.slice (some ⟨g,0,none⟩) F c) ∧ Vals w' g F (afterS Xf.rmeetV Xf.rapply sd (ge es k).b (Sp.gl ls k) f) ∧ w.heap.size ≤ g ∧ F ≤ c ∧ Below w.heap.size w w':=by
 have HE:=Lib.hid he
 have HF:=Lib.hid hf
 have HS:=Lib.hid hs
 have HV:=Lib.hid hv
 have HSD:=Lib.hid hsd
 have HPR:=Lib.hid hpr
 have hgl:=hv.lt
 clear he hf hs hv hsd hpr
 go_enter Tryz.func90,Tryz.ntmps90
 go_upto_region 1 with fail
 refine wp_named (fun W => ∃ b0,w.heap.size = b0 ∧ Blk W b0 [.slice A1 n1 c1,.slice A2 n2 c2,.int .i64 mn,.int .i64 F,.slice A3 n3 c3,.slice A4 n4 c4] ∧ Below w.heap.size w W) ⟨_,rfl,?_,?_⟩ ?_
 · exact kbn
 · go_grown
 rintro W ⟨b0,e0,B0,hB⟩
 rw [e0]
 have G0 : w.heap.size ≤ b0:=by omega
 clear e0
 have ⟨L0,C0,F0⟩:=B0
 have hkW : Kept [] w W:=(Kept.refl _ _).call hB
 have hb0l : b0 ≠ gl:=by omega
 have VW:=Lib.hid (HV.out.kept hkW (by simp))
 go_wp2_with (go_at_call 43;refine (tops_any F _ hF1 hF2).mono ?_;rintro e w1 ⟨g,c,rfl,hv1,hg1,hc1,hb1⟩)
 have hk1 : Kept [] W w1:=(Kept.refl _ _).call hb1
 have V1:=Lib.hid hv1
 have hb0W : b0 < W.heap.size:=L0
 have hgg : g ≠ gl:=by have:=hkW.size;omega
 have hb0g : b0 ≠ g:=by omega
 clear hv1
 obtain ⟨b3,o3,Ai,ni,ci,rfl,hl3,hc3,hxp⟩:=HF.out.rowF (hkW.call hb1).toBelow hk3
 have HX:=Lib.hid hxp
 have HNI:=Lib.hid hxp.1
 have hni : ni ≤ 8192:=by have:=hxp.1;omega
 clear hxp hpl
 have hb3g : b3 ≠ g:=by have:=hkW.size;omega
 have hk3' : (k : Int) < (n3 : Int):=by omega
 have hk2' : (k : Int) < (n2 : Int):=by omega
 go_loopw [8] (fun i wr => ∃ j : Nat,j ≤ ni ∧ i = .int .i64 j ∧ Kept [g] w1 wr ∧ Hid (Vals wr g F (prS Xf.rmeetV Xf.rapply (Sp.gl ls k) f j))) (fun i _ => ni - (intOf i).toNat)
 case atStart => exact ⟨0,Nat.zero_le _,rfl,Kept.refl _ _,V1⟩
 case round =>
   obtain ⟨j,hj,rfl,hkr,vr⟩:=hrel
   have hkwr1 : Kept [g] w wr:=((Kept.refl [g] w).next (hkW.call hb1) (by simp)).next hkr (by simp)
   have hkwr : Kept [] w wr:=kept_fresh (hkW.call hb1) hkr (by have:=hkW.size;simp;omega)
   have hBr : Below w.heap.size w wr:=hkwr.toBelow
   have BR : Blk wr b0 _:=hkr.blk (by simpa using hb0g) (hk1.blk (by simp) B0)
   have ⟨LR,CR,FR⟩:=BR
   clear C0 F0
   have r3 : wr.cell? ⟨b3,o3 + k,none⟩ = some (.slice Ai ni ci):=(hkr.cell b3 _ (Nat.lt_of_lt_of_le hl3 (hkW.call hb1).size) (by simpa using hb3g)).trans hc3
   have hl3r : b3 < wr.heap.size:=Nat.lt_of_lt_of_le hl3 hkwr.size
   by_cases hlt : j < ni
   case neg =>
     obtain rfl : j = ni:=by omega
     obtain ⟨b2,o2,rfl,hl2,hc2⟩:=HE.out.cell2 hBr hk2
     obtain ⟨nd,hnd⟩ : ∃ nd,(ge es k).b = nd:=⟨_,rfl⟩
     rw [hnd] at hc2
     have HND:=Lib.hid hnd
     clear hnd
     have hb2g : b2 ≠ g:=by have:=hkW.size;omega
     have hl2r : b2 < wr.heap.size:=Nat.lt_of_lt_of_le hl2 hkwr.size
     have hEq : Hid (metS Xf.rmeetV sd nd (prS Xf.rmeetV Xf.rapply (Sp.gl ls k) f j) n4 = afterS Xf.rmeetV Xf.rapply sd nd (Sp.gl ls k) f):=by
       show _ = _
       unfold afterS
       rw [HNI.out,HS.out.1]
     have hgw : w.heap.size ≤ g:=by have:=hkW.size;omega
     go_upto_region 7 with fail
     refine wp_region_E 10 (fun w' => SXk wr g w') (by kernel_rfl) (by (first | (with_reducible assumption) | exact SXk.of (Kept.refl _ _).drew | exact SXk.of (hHeld.1.next (by assumption) (by simp)))) (fun hHeld => ?_)
     refine WE_tk 0 ?_
     refine WE_tk 1 ?_
     refine WE_tk 2 ?_
     refine WE_tk 3 ?_
     refine WE_tk 4 ?_
     refine WE_tk 5 ?_
     refine WE_tk 6 ?_
     refine WE_tk 7 ?_
     refine WE_tk 8 ?_
     refine WE_step 9 rfl (by kernel_rfl) (fun K hK => ?_)
     go_simp
     (go_at_call 89;refine (rmet_any A1 _ _ A4 n1 c1 n2 c2 n3 c3 n4 c4 g F c mn F nd sd (prS Xf.rmeetV Xf.rapply (Sp.gl ls k) f j) w _ HS.out hn4 (hkwr.drew).toBelow hgw (vr.out.kept ((Kept.refl [] _).drew) (by simp)) HSD.out).mono ?_;rintro e w5 ⟨rfl,hv5,hk5⟩;have V5:=Lib.hid hv5;clear hv5)
     (try go_wp2_with fail)
     refine hK.out _ _ ?_ (fun hHeld => ?_)
     · (first | (with_reducible assumption) | exact SXk.of (Kept.refl _ _).drew | exact SXk.of (hHeld.1.next (by assumption) (by simp)))
     clear hK K
     refine WE_put ?_
     refine WE_last rfl (by kernel_rfl) (fun K hK => ?_)
     go_simp
     refine hK.out _ _ ?_
     clear hK K
     go_wp2_with fail
     go_ret
     refine ⟨g,c,rfl,by rw [HND.out,← hEq.out];exact V5.out,hgw,hc1,?_⟩
     exact (kept_fresh hkwr hHeld.1 (by simpa using hgw)).toBelow
   obtain ⟨xi,xo,xk,xb,xc,en⟩ : ∃ xi xo xk xb xc,Sp.gx (Sp.gl ls k) j = ⟨xi,xo,xk,xb,xc⟩:=⟨_,_,_,_,_,rfl⟩
   obtain ⟨b,o,rfl,hl,h1,h2,h3,h4,h5⟩:=HX.out.cells hBr hlt en
   have hxr:=HPR.out j (by rw [HNI.out];exact hlt)
   rw [en] at hxr
   dsimp only at hxr
   obtain ⟨x,rfl⟩:=Int.eq_ofNat_of_zero_le hxr.1
   obtain ⟨y,rfl⟩:=Int.eq_ofNat_of_zero_le hxr.2.2.1
   have hx : x < F:=by omega
   have hy : y < F:=by omega
   have hx1 : (x : Int) < (F : Int):=by omega
   have hy1 : (y : Int) < (F : Int):=by omega
   have hj1 : (j : Int) < (ni : Int):=by omega
   clear hxr
   have hlr : b < wr.heap.size:=Nat.lt_of_lt_of_le hl hkwr.size
   have HEN:=Lib.hid en
   clear en
   go_upto_region 6 with fail
   refine wp_named (fun V => ∃ gb,wr.heap.size = gb ∧ Blk V gb [.int .i64 x,.int .i64 y,.int .i64 xk,.int .i64 xb,.int .i64 xc] ∧ Kept [] wr V) ⟨_,rfl,Blk.new _ _ _ _ rfl,(Kept.refl _ _).alloc _⟩ ?_
   rintro V ⟨gb,eg,Bg,hkV⟩
   rw [eg]
   have ⟨LG,CG,FG⟩:=Bg
   have VV:=Lib.hid (vr.out.kept hkV (by simp))
   have LV:=Lib.hid (HV.out.kept (keptTrans hkwr hkV) (by simp))
   have hgbg : gb ≠ g:=by have:=vr.out.lt;omega
   have hgbl : gb ≠ gl:=by have:=hkwr.size;omega
   clear h1 h2 h3 h4 h5 eg CR FR r3
   obtain ⟨u,hu⟩ : ∃ u,prS Xf.rmeetV Xf.rapply (Sp.gl ls k) f j y = u:=⟨_,rfl⟩
   obtain ⟨z,hz⟩ : ∃ z,f x = z:=⟨_,rfl⟩
   have v0:=VV.out.c0 y hy
   have v1:=VV.out.c1 y hy
   have l0:=LV.out.c0 x hx
   have l1:=LV.out.c1 x hx
   rw [hu] at v0 v1
   rw [hz] at l0 l1
   obtain ⟨uk,un⟩:=u
   obtain ⟨zk,zn⟩:=z
   have f0:=VV.out.fz
   have hgr:=VV.out.lt
   have hlr2:=LV.out.lt
   have HU:=Lib.hid hu
   have HZ:=Lib.hid hz
   clear hu hz
   obtain ⟨ak,an,ha⟩ : ∃ ak an,Xf.rapply ⟨xk,xb,xc⟩ ⟨zk,zn⟩ = ⟨ak,an⟩:=⟨_,_,rfl⟩
   have HA:=Lib.hid ha
   clear ha
   refine wp_region_E 18 (fun w' => SX0 V w') (by kernel_rfl) (by (exact kp0)) (fun hHeld => ?_)
   refine WE_tk 0 ?_
   refine WE_tk 1 ?_
   refine WE_tk 2 ?_
   refine WE_tk 3 ?_
   refine WE_tk 4 ?_
   refine WE_tk 5 ?_
   refine WE_tk 6 ?_
   refine WE_tk 7 ?_
   refine WE_tk 8 ?_
   refine WE_tk 9 ?_
   refine WE_tk 10 ?_
   refine WE_tk 11 ?_
   refine WE_tk 12 ?_
   refine WE_tk 13 ?_
   refine WE_tk 14 ?_
   refine WE_step 15 rfl (by kernel_rfl) (fun K hK => ?_)
   go_simp
   (first | (go_at_call 119;refine (rapply_any xk xb xc zk zn _).mono ?_;rw [HA.out];rintro e w5 ⟨rfl,hb5⟩) | (go_at_call 92;refine (rmeetV_any uk un ak an _).mono ?_;rintro e w6 ⟨rfl,hb6⟩))
   (try go_wp2_with fail)
   refine hK.out _ _ ?_ (fun hHeld => ?_)
   · (exact kp0)
   clear hK K
   refine WE_put ?_
   refine WE_step 16 rfl (by kernel_rfl) (fun K hK => ?_)
   go_simp
   (first | (go_at_call 119;refine (rapply_any xk xb xc zk zn _).mono ?_;rw [HA.out];rintro e w5 ⟨rfl,hb5⟩) | (go_at_call 92;refine (rmeetV_any uk un ak an _).mono ?_;rintro e w6 ⟨rfl,hb6⟩))
   (try go_wp2_with fail)
   refine hK.out _ _ ?_ (fun hHeld => ?_)
   · (exact kp0)
   clear hK K
   refine WE_put ?_
   refine WE_tk 17 ?_
   refine WE_last rfl (by kernel_rfl) (fun K hK => ?_)
   go_simp
   refine hK.out _ _ ?_
   clear hK K
   have hk6 : Kept [] V w6:=hHeld.1
   have V6:=Lib.hid (VV.out.kept hk6 (by simp))
   have hX : Hid ((fun i => if i = y then Xf.rmeetV ⟨uk,un⟩ ⟨ak,an⟩ else prS Xf.rmeetV Xf.rapply (Sp.gl ls k) f j i) = prS Xf.rmeetV Xf.rapply (Sp.gl ls k) f (j + 1)):=by
     show _ = _
     rw [← pr_one,HEN.out]
     dsimp only
     simp only [Int.toNat_natCast]
     rw [HU.out,HZ.out,HA.out]
   go_wp2_with fail
   exact ⟨⟨j + 1,by omega,by go_num,(((hkr.next hkV (by simp)).next hk6 (by simp)).set g _ _ (.inl (by simp))).set g _ _ (.inl (by simp)),Lib.hid (hX.out ▸ V6.out.put y _ hy)⟩,by simp [intOf];omega⟩
theorem rpairs_is (A : Option Addr) (n c : Nat) (F : Int) (l : List Sp.Xp) (w : World) (hp : Xps w A n l) (v : Int) (h : Sp.pairsErr F l = v) :
   Calls Tryz.prog 29 #[.slice A n c,.int .i64 F] w fun e w' => e = .returned (.int .i64 v) ∧ Below w.heap.size w w':=by
 subst h
 exact rpairs_any A n c F l w hp
set_option maxRecDepth 100000 in
set_option maxHeartbeats 8000000 in
theorem rideck_any (A1 A2 A3 A4 : Option Addr) (n1 c1 n2 c2 n3 c3 n4 c4 : Nat) (mn F : Int) (ns : List Sp.Nd) (es : List Sp.Ed) (ls : List (List Sp.Xp)) (sd : List Sp.Vs) (w : World) (hn : Nds w A1 n1 ns) (he : Eds w A2 n2 es) (hf : Fls w A3 n3 ls) (hsd : Vss w A4 n4 sd) (h4 : n4 ≤ 9223372036854775807) :
   Calls Tryz.prog 9 #[.agg #[.slice A1 n1 c1,.slice A2 n2 c2,.int .i64 mn,.int .i64 F,.slice A3 n3 c3,.slice A4 n4 c4]] w fun e w' => e = .returned (.int .i64 (Sp.ideErr ns es mn F ls sd)) ∧ Below w.heap.size w w':=by
 have HN:=Lib.hid hn
 have HE:=Lib.hid he
 have HF:=Lib.hid hf
 have HS:=Lib.hid hsd
 have HL1:=Lib.hid hn.1
 have HL2:=Lib.hid he.1
 have HL3:=Lib.hid hf.1
 have HL4:=Lib.hid hsd.1
 clear hn he hf hsd
 go_enter Tryz.func9,Tryz.ntmps9
 go_upto_region 1 with fail
 refine wp_named (fun W => ∃ b0,w.heap.size = b0 ∧ Blk W b0 [.slice A1 n1 c1,.slice A2 n2 c2,.int .i64 mn,.int .i64 F,.slice A3 n3 c3,.slice A4 n4 c4] ∧ Below w.heap.size w W) ⟨_,rfl,?_,?_⟩ ?_
 · exact kbn
 · go_grown
 rintro W ⟨b0,e0,B0,hB⟩
 rw [e0]
 have G0 : w.heap.size ≤ b0:=by omega
 clear e0
 have ⟨L0,C0,F0⟩:=B0
 go_wp2_with fail
 refine (rsuper_any _ _ _ _ _ _ _ ns es _ (HN.out.later hB) (HE.out.later hB)).mono ?_
 rintro e w1 ⟨rfl,hb1⟩
 have hk1 : Kept [] W w1:=(Kept.refl _ _).call hb1
 have hB1:=hk1.below hB hB.size (by simp)
 have ⟨L1,C1,F1⟩:=hk1.blk (by simp) B0
 clear C0 F0
 obtain ⟨se,hse⟩ : ∃ x,Sp.superErr ns es mn = x:=⟨_,rfl⟩
 rw [hse]
 have HSE:=Lib.hid hse
 clear hse
 by_cases h0 : se = 0
 case neg =>
   have h0' : (se != 0) = true:=by simpa using h0
   have hE : Hid (Sp.ideErr ns es mn F ls sd = se):=by show _ = _;unfold Sp.ideErr;rw [HSE.out,if_pos h0]
   clear h0
   go_wp2_with fail
   go_ret
   exact ⟨ret_int hE.out.symm,hB1⟩
 subst h0
 by_cases f1 : F < 1
 · have z : decide (F < 1) = true:=by simpa using f1
   have hE : Hid (Sp.ideErr ns es mn F ls sd = 4):=by show _ = _;unfold Sp.ideErr;rw [HSE.out,if_neg (by simp),if_pos (by omega)]
   go_wp2_with fail
   go_ret
   exact ⟨ret_int hE.out.symm,hB1⟩
 have z1 : decide (F < 1) = false:=by simpa using f1
 by_cases f2 : 1024 < F
 · have z : decide (1024 < F) = true:=by simpa using f2
   have hE : Hid (Sp.ideErr ns es mn F ls sd = 4):=by show _ = _;unfold Sp.ideErr;rw [HSE.out,if_neg (by simp),if_pos (by omega)]
   go_wp2_with fail
   go_ret
   exact ⟨ret_int hE.out.symm,hB1⟩
 have z2 : decide (1024 < F) = false:=by simpa using f2
 have HFF : Hid (¬ (F < 1 ∨ 1024 < F)):=by show ¬ _;omega
 by_cases f3 : n3 = n2
 case neg =>
   have y1 : ((n3 : Int) != (n2 : Int)) = true:=by simp;omega
   have y2 : (n3 != n2) = true:=by simp;omega
   have hE : Hid (Sp.ideErr ns es mn F ls sd = 20):=by show _ = _;unfold Sp.ideErr;rw [HSE.out,if_neg (by simp),if_neg HFF.out,if_pos (by rw [HL3.out,HL2.out];exact f3)]
   go_wp2_with fail
   go_ret
   exact ⟨ret_int hE.out.symm,hB1⟩
 have y1 : ((n3 : Int) != (n2 : Int)) = false:=by simp;omega
 have y2 : (n3 != n2) = false:=by simp;omega
 have HLL : Hid (ls.length = es.length):=by show _ = _;rw [HL3.out,HL2.out];exact f3
 have hn2 : n2 ≤ 32768:=by
   have h1:=HSE.out
   unfold Sp.superErr at h1
   rw [HL1.out,HL2.out] at h1
   split at h1
   · cases h1
   · omega
 subst f3
 clear f1 f2
 go_wp2_with fail
 go_loopw [4] (fun i wr => ∃ j : Nat,j ≤ n3 ∧ i = .int .i64 j ∧ Kept [] W wr ∧ Hid (∀ x,x < j → Sp.pairsErr F (Sp.gl ls x) = 0)) (fun i _ => n3 - (intOf i).toNat)
 case atStart => exact ⟨0,Nat.zero_le _,rfl,hk1,Lib.hid (fun j hj => absurd hj (by omega))⟩
 case round =>
   obtain ⟨j,hj,rfl,hkr,hno⟩:=hrel
   have BR:=hkr.blk (by simp) B0
   have ⟨LR,CR,FR⟩:=BR
   have hBr:=hkr.below hB hB.size (by simp)
   clear C1 F1
   by_cases hlt : j < n3
   · obtain ⟨b,o,rfl,hl,hc⟩:=(HF.out.later hBr).2 (by omega)
     obtain ⟨Ai,ni,ci,h1,hx⟩:=hc j hlt
     have HX:=Lib.hid hx
     clear hc hx
     have hbad : Hid (∀ e,Sp.pairsErr F (Sp.gl ls j) = e → e ≠ 0 → Sp.ideErr ns es mn F ls sd = e):=fun e h1 h2 => Sp.ide_flow HSE.out HFF.out HLL.out hno.out (by rw [HL3.out];exact hlt) h1 h2
     have hstep : Hid (Sp.pairsErr F (Sp.gl ls j) = 0 → ∀ x,x < j + 1 → Sp.pairsErr F (Sp.gl ls x) = 0):=fun h0 x hx => by
       rcases Nat.lt_or_ge x j with h9 | h9
       · exact hno.out x h9
       · obtain rfl : x = j:=by omega
         exact h0
     obtain ⟨pe,hpe⟩ : ∃ x,Sp.pairsErr F (Sp.gl ls j) = x:=⟨_,rfl⟩
     have HPE:=Lib.hid hpe
     clear hpe
     have x3 : (j : Int) < (n3 : Int):=by omega
     go_upto_region 11 with fail
     go_cut [5] (fun s wx => s = .int .i64 pe ∧ Kept [] wr wx)
     case first =>
       go_region_held3 (fun w' => SX0 wr w') (exact kp0)
         (first | (go_at_call 29;((with_reducible refine (rpairs_is _ _ _ F (Sp.gl ls j) _ (HX.out.kept (by (exact kpt0))) pe HPE.out).mono ?_));rintro e w3 ⟨rfl,hb3⟩;obtain ⟨hc3,hf3,hg3⟩:=bcell hb3;have hz3:=hb3.size;try simp at hz3))
       all_goals
         go_wp2_with fail
         go_meet
         refine ⟨rfl,?_⟩
         (exact kpt0)
     case rest =>
       obtain ⟨rfl,hkc⟩:=hcut
       rename World => w5
       clear CR FR h1
       have hk5 : Kept [] W w5:=keptTrans hkr hkc
       have hB5:=hk5.below hB hB.size (by simp)
       by_cases hx0 : pe = 0
       · have hx0' : (pe != 0) = false:=by simpa using hx0
         have hfin:=Lib.hid (hstep.out (HPE.out.trans hx0))
         clear hx0
         go_wp2_with fail
         exact ⟨⟨j + 1,by omega,by go_num,hk5,hfin⟩,by simp [intOf];omega⟩
       · have hx0' : (pe != 0) = true:=by simpa using hx0
         have hE:=Lib.hid (hbad.out pe HPE.out hx0)
         clear hx0
         go_wp2_with fail
         go_ret
         exact ⟨ret_int hE.out.symm,hB5⟩
   · obtain rfl : j = n3:=by omega
     have hall : Hid (∀ x,x < ls.length → Sp.pairsErr F (Sp.gl ls x) = 0):=fun x hx => hno.out x (by rw [HL3.out] at hx;exact hx)
     clear hno hlt
     go_wp2_with fail
     go_loopw [6] (fun i wz => ∃ q : Nat,q ≤ n4 ∧ i = .int .i64 q ∧ Kept [] W wz ∧ Hid (∀ x,x < q → Sp.seedErr n1 F sd x = 0)) (fun i _ => n4 - (intOf i).toNat)
     case atStart => exact ⟨0,Nat.zero_le _,rfl,hkr,Lib.hid (fun j hj => absurd hj (by omega))⟩
     case round =>
       rename World => wz
       obtain ⟨q,hq,rfl,hkz,hno⟩:=hrel
       have BZ:=hkz.blk (by simp) B0
       have ⟨LZ,CZ,FZ⟩:=BZ
       have hBz:=hkz.below hB hB.size (by simp)
       clear CR FR
       by_cases hlt : q < n4
       case neg =>
         obtain rfl : q = n4:=by omega
         have hE:=Lib.hid (Sp.ide_ok (sd:=sd) HSE.out HFF.out HLL.out hall.out (fun x hx => by rw [HL1.out];exact hno.out x (by rw [HL4.out] at hx;exact hx)))
         go_wp2_with fail
         go_ret
         exact ⟨ret_int hE.out.symm,hBz⟩
       obtain ⟨b,o,rfl,hl,hc⟩:=(HS.out.later hBz).2 (by omega)
       obtain ⟨h1,h2,h3,h5⟩:=hc q hlt
       have HC:=Lib.hid hc
       have LB:=Lib.hid hl
       clear hc
       obtain ⟨sn,sf,sk,sv,en⟩ : ∃ sn sf sk sv,Sp.gs sd q = ⟨sn,sf,sk,sv⟩:=⟨_,_,_,_,rfl⟩
       rw [en] at h1 h2 h3 h5
       have HEe:=Lib.hid en
       clear en
       go_upto_region 18 with fail
       refine wp_named (fun V => ∃ g,wz.heap.size = g ∧ Blk V g [.int .i64 sn,.int .i64 sf,.int .i64 sk,.int .i64 sv] ∧ Kept [] wz V) ⟨_,rfl,Blk.new _ _ _ _ rfl,(Kept.refl _ _).alloc _⟩ ?_
       rintro V ⟨g,eg,Bg,hkV⟩
       rw [eg]
       have hkw : Kept [] W V:=keptTrans hkz hkV
       have ⟨LG,CG,FG⟩:=Bg
       have BV:=hkw.blk (by simp) B0
       have ⟨LV,CV,FV⟩:=BV
       have hBV:=hkw.below hB hB.size (by simp)
       clear CZ FZ h1 h2 h3 h5 eg
       have hbad : Hid (∀ e,Sp.seedErr n1 F sd q = e → e ≠ 0 → Sp.ideErr ns es mn F ls sd = e):=fun e h1 h2 => Sp.ide_seed HSE.out HFF.out HLL.out hall.out (j:=q) (fun x hx => by rw [HL1.out];exact hno.out x hx) (by rw [HL4.out];exact hlt) (by rw [HL1.out];exact h1) h2
       have hstep : Hid (Sp.seedErr n1 F sd q = 0 → ∀ x,x < q + 1 → Sp.seedErr n1 F sd x = 0):=fun h0 x hx => by
         rcases Nat.lt_or_ge x q with h9 | h9
         · exact hno.out x h9
         · obtain rfl : x = q:=by omega
           exact h0
       obtain ⟨ve,hve⟩ : ∃ x,Sp.verr sk sv = x:=⟨_,rfl⟩
       have HVE:=Lib.hid hve
       have HEr : Hid (Sp.seedErr n1 F sd q = if sn < 0 ∨ (n1 : Int) ≤ sn ∨ sf < 1 ∨ F ≤ sf then 4 else if ve ≠ 0 then ve else if 0 < q ∧ Sp.lessS (Sp.gs sd (q - 1)) ⟨sn,sf,sk,sv⟩ = false then 13 else 0):=by
         show _ = _
         unfold Sp.seedErr
         rw [HEe.out]
         dsimp only
         rw [hve]
       clear hve
       by_cases r0 : sn < 0
       · have z : decide (sn < 0) = true:=by simpa using r0
         have hE:=Lib.hid (hbad.out 4 (by rw [HEr.out,if_pos (by omega)]) (by omega))
         go_wp2_with fail
         go_ret
         exact ⟨ret_int hE.out.symm,hBV⟩
       have r0' : decide (sn < 0) = false:=by simpa using r0
       by_cases r1 : (n1 : Int) ≤ sn
       · have z : decide ((n1 : Int) ≤ sn) = true:=by simpa using r1
         have hE:=Lib.hid (hbad.out 4 (by rw [HEr.out,if_pos (by omega)]) (by omega))
         go_wp2_with fail
         go_ret
         exact ⟨ret_int hE.out.symm,hBV⟩
       have r1' : decide ((n1 : Int) ≤ sn) = false:=by simpa using r1
       by_cases r2 : sf < 1
       · have z : decide (sf < 1) = true:=by simpa using r2
         have hE:=Lib.hid (hbad.out 4 (by rw [HEr.out,if_pos (by omega)]) (by omega))
         go_wp2_with fail
         go_ret
         exact ⟨ret_int hE.out.symm,hBV⟩
       have r2' : decide (sf < 1) = false:=by simpa using r2
       by_cases r3 : F ≤ sf
       · have z : decide (F ≤ sf) = true:=by simpa using r3
         have hE:=Lib.hid (hbad.out 4 (by rw [HEr.out,if_pos (by omega)]) (by omega))
         go_wp2_with fail
         go_ret
         exact ⟨ret_int hE.out.symm,hBV⟩
       have r3' : decide (F ≤ sf) = false:=by simpa using r3
       have HEy : Hid (Sp.seedErr n1 F sd q = if ve ≠ 0 then ve else if 0 < q ∧ Sp.lessS (Sp.gs sd (q - 1)) ⟨sn,sf,sk,sv⟩ = false then 13 else 0):=by
         show _ = _
         rw [HEr.out,if_neg (by omega)]
       clear HEr r0 r1 r2 r3
       go_wp2_with fail
       refine (rvcheckv_any sk sv _).mono ?_
       rw [HVE.out]
       rintro e w6 ⟨rfl,hb6⟩
       have hkV6 : Kept [] V w6:=(Kept.refl _ _).call hb6
       have hk6 : Kept [] W w6:=keptTrans hkw hkV6
       have hB6:=hk6.below hB hB.size (by simp)
       have ⟨LG6,CG6,FG6⟩:=hkV6.blk (by simp) Bg
       have BG6:=hkV6.blk (by simp) Bg
       have ⟨LV6,CV6,FV6⟩:=hk6.blk (by simp) B0
       clear CG FG CV FV
       by_cases v0 : ve = 0
       case neg =>
         have v0' : (ve != 0) = true:=by simpa using v0
         have hE:=Lib.hid (hbad.out ve (by rw [HEy.out,if_pos v0]) v0)
         clear v0
         go_wp2_with fail
         go_ret
         exact ⟨ret_int hE.out.symm,hB6⟩
       subst v0
       have HEw : Hid (Sp.seedErr n1 F sd q = if 0 < q ∧ Sp.lessS (Sp.gs sd (q - 1)) ⟨sn,sf,sk,sv⟩ = false then 13 else 0):=by
         show _ = _
         rw [HEy.out,if_neg (by simp)]
       clear HEy
       by_cases hq0 : q = 0
       · have y3 : decide (0 < q) = false:=by simp;omega
         have y4 : decide ((0 : Int) < (q : Int)) = false:=by simp;omega
         have hfin:=Lib.hid (hstep.out (by rw [HEw.out,if_neg (by omega)]))
         clear hq0
         go_upto_region 23 with fail
         go_quiet (fail)
         go_wp2_with fail
         exact ⟨⟨q + 1,by omega,by go_num,hk6.drewN _,hfin⟩,by simp [intOf];omega⟩
       have y3 : decide (0 < q) = true:=by simp;omega
       have y4 : decide ((0 : Int) < (q : Int)) = true:=by simp;omega
       have w3 : IntKind.i64.wrap ((q : Int) - 1) = (q : Int) - 1:=IntWalk.i64_in _ (by omega)
       have w4 : (0 : Int) ≤ (q : Int) - 1:=by omega
       have w5 : ((q : Int) - 1).toNat = q - 1:=by omega
       have w7 : (q : Int) - 1 < (n4 : Int):=by omega
       have w8 : 0 < q:=by omega
       have w9 : 1 ≤ q:=by omega
       have w10 : (1 : Int) ≤ (q : Int):=by omega
       have w11 : q ≤ n4:=by omega
       have w12 : q < n4 + 1:=by omega
       have w13 : (q : Int) < (n4 : Int) + 1:=by omega
       have w14 : (q : Int) ≤ (n4 : Int):=by omega
       obtain ⟨p1,p2,p3,p4⟩:=HC.out (q - 1) (by omega)
       obtain ⟨pn,pf,pk,pv,ep⟩ : ∃ pn pf pk pv,Sp.gs sd (q - 1) = ⟨pn,pf,pk,pv⟩:=⟨_,_,_,_,rfl⟩
       rw [ep] at p1 p2 p3 p4
       have hkz6 : Kept [] wz w6:=keptTrans hkV hkV6
       have q1:=(hkz6.cell b _ LB.out (by simp)).trans p1
       have q2:=(hkz6.cell b _ LB.out (by simp)).trans p2
       have q3:=(hkz6.cell b _ LB.out (by simp)).trans p3
       have q4:=(hkz6.cell b _ LB.out (by simp)).trans p4
       have hb6' : b < w6.heap.size:=Nat.lt_of_lt_of_le LB.out hkz6.size
       have HEx : Hid (Sp.seedErr n1 F sd q = if Sp.lessS ⟨pn,pf,pk,pv⟩ ⟨sn,sf,sk,sv⟩ = false then 13 else 0):=by
         show _ = _
         rw [HEw.out,ep]
         simp [w8]
       clear p1 p2 p3 p4 ep hq0 HEw
       by_cases s1 : sn < pn
       · have u1 : decide (sn < pn) = true:=by simpa using s1
         have hE:=Lib.hid (hbad.out 13 (by rw [HEx.out,if_pos (by unfold Sp.lessS;simp only;rw [if_pos (by omega)];simp;omega)]) (by omega))
         clear s1
         go_upto_region 23 with fail
         go_quiet (fail)
         go_wp2_with fail
         go_ret
         exact ⟨ret_int hE.out.symm,(hk6.drewN _).below hB hB.size (by simp)⟩
       have u1 : decide (sn < pn) = false:=by simpa using s1
       by_cases s2 : pn = sn
       · have u2 : (pn == sn) = true:=by simpa using s2
         by_cases s3 : sf ≤ pf
         · have u3 : decide (sf ≤ pf) = true:=by simpa using s3
           have hE:=Lib.hid (hbad.out 13 (by rw [HEx.out,if_pos (by unfold Sp.lessS;simp only;rw [if_neg (by omega)];simp;omega)]) (by omega))
           clear s1 s2
           go_upto_region 23 with fail
           go_quiet (fail)
           go_wp2_with fail
           go_ret
           exact ⟨ret_int hE.out.symm,(hk6.drewN _).below hB hB.size (by simp)⟩
         · have u3 : decide (sf ≤ pf) = false:=by simpa using s3
           have hfin:=Lib.hid (hstep.out (by rw [HEx.out,if_neg (by unfold Sp.lessS;simp only;rw [if_neg (by omega)];simp;omega)]))
           clear s1 s2
           go_upto_region 23 with fail
           go_quiet (fail)
           go_wp2_with fail
           exact ⟨⟨q + 1,by omega,by go_num,hk6.drewN _,hfin⟩,by simp [intOf];omega⟩
       · have u2 : (pn == sn) = false:=by simpa using s2
         have hfin:=Lib.hid (hstep.out (by rw [HEx.out,if_neg (by unfold Sp.lessS;simp only;rw [if_pos (by omega)];simp;omega)]))
         clear s1 s2
         go_upto_region 23 with fail
         go_quiet (fail)
         go_wp2_with fail
         exact ⟨⟨q + 1,by omega,by go_num,hk6.drewN _,hfin⟩,by simp [intOf];omega⟩
end Go.Proofs.YtincpmdldpakkaaGreatDoor
namespace Go.Proofs.YtincpmdldpakkaaGreatDoor
open Go.RowKit Go.Df Go.WideMaps
theorem Tryz.laidOut : laidOutB Tryz.prog = true:=by kernel_rfl
theorem Tryz.rowEdge : (220 : TypeId) < Tryz.prog.types.size:=of_decide_eq_true (by kernel_rfl)
theorem Tryz.deepEdge : Tryz.prog.keyTypeAt (Tryz.prog.types.size + 1) 220 = true:=by kernel_rfl
theorem Tryz.deepEdge2 : Tryz.prog.keyTypeAt 2 220 = true:=by kernel_rfl
theorem Tryz.fieldsEdge : fieldsOf Tryz.prog 220 = [("From", 3, 0), ("To", 3, 1)] := by kernel_rfl
theorem Tryz.lawEdge : Maps.Keyed Tryz.prog 220:=keyed_struct Tryz.laidOut Tryz.rowEdge Tryz.deepEdge2 Tryz.fieldsEdge (by simp)
theorem Tryz.zeroBool (w : World) : (zeroValue 4).run Tryz.prog w = .ok (.bool false) w:=by kernel_rfl
theorem Tryz.zeroInt (w : World) : (zeroValue 3).run Tryz.prog w = .ok (.int .i64 0) w:=by kernel_rfl
theorem Tryz.mapII : Tryz.prog.underlying 215 = some (.map 3 3):=by kernel_rfl
theorem Tryz.mapEB : Tryz.prog.underlying 218 = some (.map 220 4):=by kernel_rfl
theorem Tryz.undInt : Tryz.prog.underlying 3 = some (.int .i64):=by kernel_rfl
theorem Tryz.undBool : Tryz.prog.underlying 4 = some .bool:=by kernel_rfl
theorem Tryz.lawInt : Maps.Keyed Tryz.prog 3:=Maps.int_keyed Tryz.undInt
theorem Tryz.keyInt (a : Int) (h : (Lit.int .i64 a).wf = true) : keyOf Tryz.prog 3 (.int .i64 a) = some (.int .i64 a):=Maps.keyOf_int_mk Tryz.undInt h
theorem Tryz.cellsInt : Tryz.prog.cellsOf 3 = 1:=by kernel_rfl
theorem Tryz.cellsEdge : Tryz.prog.cellsOf 220 = 2:=by kernel_rfl
theorem Tryz.keyEdge (a b : Int) (ha : (Lit.int .i64 a).wf = true) (hb : (Lit.int .i64 b).wf = true) : ∃ kl,keyOf Tryz.prog 220 (.agg #[.int .i64 a,.int .i64 b]) = some kl :=
 keyOf_two Tryz.fieldsEdge (by decide) (by decide) Tryz.deepEdge Tryz.rowEdge Tryz.cellsEdge Tryz.undInt Tryz.cellsInt a b ha hb
end Go.Proofs.YtincpmdldpakkaaGreatDoor
