/- Texts: Ug Uj Ui Cj. -/
import Derived.Test.YtincpmdldpakkaaGreatDoorMt27
import Derived.Test.YtincpmdldpakkaaGreatDoorMt13
import Derived.Test.YtincpmdldpakkaaGreatDoorMt17
import Derived.Test.YtincpmdldpakkaaGreatDoorMt20
import Derived.Test.YtincpmdldpakkaaGreatDoorMt03
import Derived.Test.YtincpmdldpakkaaGreatDoorMt15
import Derived.Test.YtincpmdldpakkaaGreatDoorMt06
namespace Go.Df
open Go.RowKit
def LRV (lim : Nat) (w : World) (A : Option Addr) (L : List (List Int)) : Prop :=
 0 < L.length → ∃ b o,A = some ⟨b,o,none⟩ ∧ lim ≤ b ∧ b < w.heap.size ∧ ∀ (i : Nat) (l : List Int),L[i]? = some l → ∃ Ai ni ci,w.cell? ⟨b,o + i,none⟩ = some (.slice Ai ni ci) ∧ Ints w Ai ni l
theorem LRV.kept {lim : Nat} {w w1 : World} {A : Option Addr} {L : List (List Int)} (h : LRV lim w A L) (hk : Kept [] w w1) : LRV lim w1 A L:=fun h0 => by
 obtain ⟨b,o,e,hge,hl,hc⟩:=h h0
 refine ⟨b,o,e,hge,Nat.lt_of_lt_of_le hl hk.size,fun i l hi => ?_⟩
 obtain ⟨Ai,ni,ci,h1,h2⟩:=hc i l hi
 exact ⟨Ai,ni,ci,(hk.cell b _ hl (by simp)).trans h1,h2.later hk.toBelow⟩
theorem ints_slice {w : World} {A : Option Addr} {n : Nat} {l : List Int} {g k : Nat} {A' : Option Addr} {n' c' : Nat} {v : Value} (h : Ints w A n l) (hu : w.cell? ⟨g,k,none⟩ = some (.slice A' n' c')) : Ints (w.setCell ⟨g,k,none⟩ v) A n l:=by
 refine ⟨h.1,fun h0 => ?_⟩
 obtain ⟨b,o,e,hl,hc⟩:=h.2 h0
 refine ⟨b,o,e,by simpa [World.setCell] using hl,fun j hj => ?_⟩
 have h9:=hc j hj
 by_cases e1 : g = b ∧ k = o + j
 · obtain ⟨rfl,rfl⟩:=e1
   rw [hu] at h9
   cases h9
 · rw [set_other (by by_cases e2 : g = b;(· exact .inr (fun e3 => e1 ⟨e2,e3⟩));(· exact .inl e2))]
   exact h9
theorem LRV.set {lim g k : Nat} {w : World} {A : Option Addr} {L : List (List Int)} {A' : Option Addr} {n' c' : Nat} {v : Value} (h : LRV lim w A L) (hg : g < lim) (hu : w.cell? ⟨g,k,none⟩ = some (.slice A' n' c')) : LRV lim (w.setCell ⟨g,k,none⟩ v) A L:=fun h0 => by
 obtain ⟨b,o,e,hge,hl,hc⟩:=h h0
 refine ⟨b,o,e,hge,by simpa [World.setCell] using hl,fun i l hi => ?_⟩
 obtain ⟨Ai,ni,ci,h1,h2⟩:=hc i l hi
 exact ⟨Ai,ni,ci,by rw [set_other (.inl (by omega))];exact h1,ints_slice h2 hu⟩
namespace Iv
theorem Vw.turn {N f : Nat} {w : World} {go : Nat} {rw rc : Nat → Nat} {V : Nat → Nat → U} (h : Vw N f w go rw rc V) {n g c : Nat} {v : Nat → U} (hn : n < N) (hl : g < w.heap.size) (hgo : g ≠ go) (hne : ∀ m,m < N → rw m ≠ g)
   (hv : ∀ a,a < f → w.cell? ⟨g,a * 2,none⟩ = some (.int .i64 (v a).1.k) ∧ w.cell? ⟨g,a * 2 + 1,none⟩ = some (.int .i64 (v a).1.n)) (hfz : ∀ i,w.frozen? ⟨g,i,none⟩ = false) :
   Vw N f (w.setCell ⟨go,n,none⟩ (.slice (some ⟨g,0,none⟩) f c)) go (updN rw n g) (updN rc n c) (fun m a => if m = n then v a else V m a):=by
 have hrow:=h.row n hn
 have p1 : ∀ (q : Nat → Nat) (y : Nat),updN q n y n = y:=fun q y => if_pos rfl
 have p2 : ∀ (q : Nat → Nat) (y : Nat) {m : Nat},m ≠ n → updN q n y m = q m:=fun q y m e => if_neg e
 refine ⟨by simpa [World.setCell] using h.glt,fun m hm => ?_,fun m a hm ha => ?_,fun m i hm => ?_,fun m hm => ?_,fun m m' hm hm' e => ?_,fun m hm => ?_⟩
 · by_cases e : m = n
   · rw [e,p1 rw g,p1 rc c]
     exact set_same hrow
   · rw [p2 rw g e,p2 rc c e,set_other (.inr (fun e2 => e e2.symm))]
     exact h.row m hm
 · by_cases e : m = n
   · rw [e,p1 rw g,if_pos rfl,set_other (.inl (Ne.symm hgo)),set_other (.inl (Ne.symm hgo))]
     exact hv a ha
   · rw [p2 rw g e,if_neg e,set_other (.inl (Ne.symm (h.ne m hm))),set_other (.inl (Ne.symm (h.ne m hm)))]
     exact h.cell m a hm ha
 · by_cases e : m = n
   · rw [e,p1 rw g]
     exact (World.frozen?_setCell _ _ _ _).trans (hfz i)
   · rw [p2 rw g e]
     exact (World.frozen?_setCell _ _ _ _).trans (h.fr m i hm)
 · by_cases e : m = n
   · rw [e,p1 rw g]
     simpa [World.setCell] using hl
   · rw [p2 rw g e]
     simpa [World.setCell] using h.lt m hm
 · unfold updN at e
   by_cases e1 : m = n <;> by_cases e2 : m' = n
   · omega
   · rw [if_pos e1,if_neg e2] at e;exact absurd e.symm (hne m' hm')
   · rw [if_neg e1,if_pos e2] at e;exact absurd e (hne m hm)
   · rw [if_neg e1,if_neg e2] at e;exact h.inj m m' hm hm' e
 · unfold updN
   split
   · exact hgo
   · exact h.ne m hm
end Iv
end Go.Df
namespace Go.Proofs.YtincpmdldpakkaaGreatDoor
open Go.RowKit Go.Df Go.Df.Iv Go.Df.Sp
attribute [local go_sem ↓] Go.wp_at_zero Go.wp_at_succ
theorem rowu34_info : (Tryz.prog.info? 39).map (fun i => (i.zero,i.size,i.bytes)) = some (some (.slice none 0 0),1,24):=by kernel_rfl
set_option maxRecDepth 100000 in
set_option maxHeartbeats 20000000 in
theorem rup34_any {p : Vb} (A1 A2 A3 A4 : Option Addr) (n1 c1 n2 c2 n3 c3 n4 c4 mN f : Nat) (w : World) (hG : Gr w A1 n1 A2 n2 p.ns p.es) (hF : Fls w A3 n3 p.fl) (hS : Vss w A4 n4 p.sd) (hv : vErr p = 0) (hfit : VFit p) (hn4 : n4 ≤ 1000000) (hn1 : n1 ≤ 40) (hmn : p.mn = (mN : Int)) (hEF : p.F = (f : Int)) (L : List (List Int)) (hL : (itI p.es 2000 p.mn 9).1 = L) :
   Calls Tryz.prog 16 #[.agg #[.slice A1 n1 c1,.slice A2 n2 c2,.int .i64 (mN : Nat),.int .i64 (f : Nat),.slice A3 n3 c3,.slice A4 n4 c4],.int .i64 8] w fun e w' =>
     ∃ (go cG : Nat) (rw rc : Nat → Nat) (M : Nat → Nat → U),e = .returned (.tuple #[.agg #[.slice (some ⟨go,0,none⟩) n1 cG],.int .i64 0]) ∧ Vw n1 f w' go rw rc M ∧ (∀ n d,(M n d).1 = upV p (fun i => L.getD i []) L.length n d) ∧ Below w.heap.size w w':=by
 obtain ⟨i1,hj,hy0,hy1,hy2⟩:=info_parts rowu34_info
 have ho:=vok_of hv
 have HO:=Lib.hid ho
 have HFI:=Lib.hid hfit
 have HG:=Lib.hid hG
 have HF:=Lib.hid hF
 have HS:=Lib.hid hS
 have HMN:=Lib.hid hmn
 have HL : Hid ((itI p.es 2000 (mN : Int) (8 + 1)).1 = L):=Lib.hid (by rw [← hmn];exact hL)
 have HRUN : Hid (∀ l ∈ L,(runS p.es p.mn [] l).1 = 0):=Lib.hid (fun l hl => itI_out_sound 9 l (by rw [hL];exact hl))
 have hLlen : L.length ≤ 2000:=by rw [← hL];exact itI_out_len _
 have HLP : Hid (∀ l ∈ L,l.length ≤ 8):=Lib.hid (fun l hl => by have:=itI_out_path 9 l (by rw [hL];exact hl);omega)
 have HPE : Hid (ideErr p.ns p.es (mN : Int) (f : Int) p.fl p.sd = 0):=Lib.hid (by rw [← hmn,← hEF];exact hv)
 have HPO : Hid (PrOk p.ns p.es (mN : Int) (f : Int) p.fl p.sd):=Lib.hid (ide_parts HPE.out)
 have hmain:=If.main_in (If.sup_parts ho.sup).2.2.1
 have HNL : Hid (p.ns.length = n1):=Lib.hid hG.nd.1
 have hn1p : 0 < n1:=by have:=HNL.out;omega
 have hf1 : 1 ≤ f:=by have:=ho.f1;omega
 have hf2 : f ≤ 1024:=by have:=ho.f2;omega
 have HCH : Hid (chkErr p.ns p.es (mN : Int) (mN : Int) = 0):=by
   show _ = _
   unfold chkErr
   rw [if_neg (not_not_intro (by rw [← hmn];exact ho.sup)),if_neg (by omega)]
 have HG2 : Hid (∀ {j : Nat} (hj : j < L.length),L.getD j [] = L[j]):=Lib.hid (fun hj => by simp [hj])
 obtain ⟨M,hM⟩ : ∃ M : Nat → Nat → Nat → U,∀ i,i ≤ L.length → ∀ n d,(M i n d).1 = upV p (fun i => L.getD i []) i n d:=by
   have hr : ∀ j,j < L.length → (runS p.es p.mn [] (L.getD j [])).1 = 0:=fun j hj => by
     rw [HG2.out hj]
     exact HRUN.out _ (List.getElem_mem hj)
   have h9 : ∀ i,∃ M : Nat → Nat → U,i ≤ L.length → ∀ n d,(M n d).1 = upV p (fun i => L.getD i []) i n d:=fun i => by
     by_cases hi : i ≤ L.length
     · obtain ⟨M,e1,_⟩:=up_glb ho hfit (fun i => L.getD i []) i (fun j hj => hr j (by omega))
       exact ⟨M,fun _ => e1⟩
     · exact ⟨fun _ _ => topV,fun h => absurd h hi⟩
   exact ⟨fun i => (h9 i).choose,fun i => (h9 i).choose_spec⟩
 have HM:=Lib.hid hM
 clear hG hF hS hv hfit ho hL hM hmain hmn hEF
 go_enter Tryz.func16,Tryz.ntmps16
 go_upto_region 1 with fail
 refine wp_named (fun W => ∃ b0 b1,w.heap.size = b0 ∧ w.heap.size + 1 = b1 ∧ Blk W b0 [.slice A1 n1 c1,.slice A2 n2 c2,.int .i64 (mN : Nat),.int .i64 (f : Nat),.slice A3 n3 c3,.slice A4 n4 c4] ∧ Blk W b1 [.slice none 0 0] ∧ Below w.heap.size w W) ⟨_,_,rfl,rfl,?_,?_,?_⟩ ?_
 · exact (Blk.new _ _ _ _ (by first | rfl | simp)).alloc _
 · exact kbn
 · go_grown
 rintro W ⟨b0,b1,e0,e1,B0,B1,hB⟩
 rw [e1,e0]
 have G0 : w.heap.size ≤ b0:=by omega
 have n01 : b0 ≠ b1:=by omega
 have G1 : w.heap.size ≤ b1:=by omega
 have n10 : b1 ≠ b0:=by omega
 clear e0 e1
 have ⟨L0,C0,F0⟩:=B0
 have ⟨L1,C1,F1⟩:=B1
 have hk0 : Kept [] w W:=(Kept.refl _ _).call hB
 go_upto_region 7 with (go_at_call 9;refine (rideck_any A1 A2 A3 A4 n1 c1 n2 c2 n3 c3 n4 c4 (mN : Nat) (f : Nat) p.ns p.es p.fl p.sd _ (HG.out.nd.later hB) (HG.out.ed.later hB) (HF.out.later hB) (HS.out.later hB) (by omega)).mono ?_;rw [HPE.out];rintro e w1 ⟨rfl,hb1⟩)
 refine wp_named (fun V => ∃ g,w1.heap.size = g ∧ Blk V g [.slice none 0 0] ∧ Kept [] w1 V) ⟨_,rfl,Blk.new _ _ _ _ rfl,(Kept.refl _ _).alloc _⟩ ?_
 rintro V ⟨g,eg,Bg,hkV⟩
 rw [eg]
 have hkWV : Kept [] W V:=((Kept.refl [] W).call hb1).next hkV (by simp)
 have hgV : g < V.heap.size:=Bg.1
 have hb1s : W.heap.size ≤ w1.heap.size:=hb1.size
 have hb0g : b0 ≠ g:=by have:=B0.1;omega
 have hb1g : b1 ≠ g:=by have:=B1.1;omega
 have hgw : w.heap.size ≤ g:=by have:=hB.size;omega
 have B0V:=hkWV.blk (by simp) B0
 have B1V:=hkWV.blk (by simp) B1
 have hwV : Kept [] w V:=keptTrans hk0 hkWV
 have HBg:=Lib.hid Bg
 have ⟨L0V,C0V,F0V⟩:=B0V
 clear C0 F0 C1 F1 eg Bg
 go_wp2_with fail
 go_loopw [8] (fun s8 wr => ∃ (n : Nat) (A : Option Addr) (cA : Nat) (bs rc : Nat → Nat),n ≤ n1 ∧ s8 = .int .i64 n ∧ Kept [g] V wr ∧ Hid (Blk wr g [.slice A n cA]) ∧ Hid (wr.ownsRow V.heap.size 39 1 (.slice A n cA) n ((List.range n).map fun x => Value.slice (some ⟨bs x,0,none⟩) f (rc x))) ∧ Hid (EmV (.int .i64 0) V.heap.size 46 (f * 2) bs n wr)) (fun s8 _ => n1 - (intOf s8).toNat)
 case atStart => exact ⟨0,none,0,fun _ => 0,fun _ => 0,Nat.zero_le _,rfl,Kept.refl _ _,HBg,Lib.hid (World.ownsRow_nil _ _ _ _),Lib.hid ⟨fun x h => absurd h (by omega),fun x y h => absurd h (by omega)⟩⟩
 case round =>
 clear C0V F0V HBg
 obtain ⟨n,A,cA,bs,rc,hn,rfl,hkr,BG,own,EM⟩:=hrel
 have BR0:=hkr.blk (by simpa using hb0g) B0V
 have ⟨L0r,C0r,F0r⟩:=BR0
 have ⟨LGr,CGr,FGr⟩:=BG.out
 have hsz:=hkr.size
 by_cases hlt : n < n1
 case pos =>
   have hn9 : (n : Int) < (n1 : Int):=by omega
   have HXA : Hid (∀ y ∈ (Value.slice A n cA).ownBlock.toList,V.heap.size ≤ y):=(fun y hy => own_ge own.out (by simpa using hy))
   have xg : g ∉ (Value.slice A n cA).ownBlock.toList:=fun hm => by have:=HXA.out g hm;omega
   have x0 : b0 ∉ (Value.slice A n cA).ownBlock.toList:=fun hm => by have:=HXA.out b0 hm;have:=B0V.1;omega
   clear hlt
   go_upto_region 10 with fail
   refine wp_region_E 8 (fun w' => SXt (Value.slice A n cA).ownBlock.toList g b0 b0 wr w') (by kernel_rfl) (by (first | (with_reducible assumption) | exact SXt.of (keptNil (Kept.refl _ _).drew) LGr L0r L0r xg x0 x0 | exact SXt.of (hHeld.1.alloc _) LGr L0r L0r xg x0 x0 | exact SXt.of HKA.out LGr L0r L0r xg x0 x0 | exact SXt.of (keptNil hk5) LGr L0r L0r xg x0 x0)) (fun hHeld => ?_)
   refine WE_tk 0 ?_
   refine WE_tk 1 ?_
   refine WE_tk 2 ?_
   refine WE_tk 3 ?_
   refine WE_step 4 rfl (by kernel_rfl) (fun K hK => ?_)
   go_simp
   (go_at_call 43;refine (topsT_any f _ hf1 hf2).mono ?_;rintro e w5 ⟨g',c',rfl,-,hg',-,hb5,htg,hcl⟩;have hk5 : Kept [] wr w5:=Kept.call ((Kept.refl [] wr).drew) hb5;have HTG:=Lib.hid htg;have HCL:=Lib.hid hcl;clear htg hcl)
   (try go_wp2_with fail)
   refine hK.out _ _ ?_ (fun hHeld => ?_)
   · (first | (with_reducible assumption) | exact SXt.of (keptNil (Kept.refl _ _).drew) LGr L0r L0r xg x0 x0 | exact SXt.of (hHeld.1.alloc _) LGr L0r L0r xg x0 x0 | exact SXt.of HKA.out LGr L0r L0r xg x0 x0 | exact SXt.of (keptNil hk5) LGr L0r L0r xg x0 x0)
   clear hK K
   refine WE_put ?_
   refine WE_step 5 rfl (by kernel_rfl) (fun K hK => ?_)
   go_simp
   refine hK.out _ _ ?_ (fun hHeld => ?_)
   · (first | (with_reducible assumption) | exact SXt.of (keptNil (Kept.refl _ _).drew) LGr L0r L0r xg x0 x0 | exact SXt.of (hHeld.1.alloc _) LGr L0r L0r xg x0 x0 | exact SXt.of HKA.out LGr L0r L0r xg x0 x0 | exact SXt.of (keptNil hk5) LGr L0r L0r xg x0 x0)
   clear hK K
   refine WE_put ?_
   refine WE_step 6 rfl (by kernel_rfl) (fun K hK => ?_)
   (refine step_append_rd _ rfl _ _ 34 rfl V.heap.size 39 i1 (.slice none 0 0) 1 24 Tryz.underlying34 hj hy0 hy1 hy2 rfl (by decide) (.slice A n cA) n _ rfl (own_keptT (X:=[]) own.out (hk5.alloc _) (by simp)) (some ⟨w5.heap.size,0,none⟩) 1 1 [.slice (some ⟨g',0,none⟩) f c'] rfl (Rd.new1 _ _ _ _ rfl) (fun h => by cases h) (by intro u hu;simp at hu;subst hu;rfl) (n + 1) rfl _ (rows_snoc bs rc f n g' c') (by unfold maxLen;omega) (by omega) (by have:=hk5.size;simp;omega) ?_;intro A9 c9 w4 hown4 hk4 hat4;have hkA : Kept (Value.slice A n cA).ownBlock.toList wr w4:=(keptNil (hk5.alloc _)).next hk4 (fun y hy => Or.inl hy);have hkB : Kept (Value.slice A n cA).ownBlock.toList w5 w4:=((Kept.refl _ w5).alloc _).next hk4 (fun y hy => Or.inl hy);have ⟨LG4,CG4,FG4⟩:=hkA.blk xg BG.out;have HO4:=Lib.hid hown4;have HKA:=Lib.hid hkA;have HKB:=Lib.hid hkB;clear hown4 hk4 hat4 hkA hkB)
   refine hK.out _ _ ?_ (fun hHeld => ?_)
   · (first | (with_reducible assumption) | exact SXt.of (keptNil (Kept.refl _ _).drew) LGr L0r L0r xg x0 x0 | exact SXt.of (hHeld.1.alloc _) LGr L0r L0r xg x0 x0 | exact SXt.of HKA.out LGr L0r L0r xg x0 x0 | exact SXt.of (keptNil hk5) LGr L0r L0r xg x0 x0)
   clear hK K
   refine WE_put ?_
   refine WE_tk 7 ?_
   refine WE_last rfl (by kernel_rfl) (fun K hK => ?_)
   go_simp
   refine hK.out _ _ ?_
   clear hK K
   have hgw5 : wr.heap.size ≤ w5.heap.size:=hk5.size
   have OWQ:=Lib.hid (own_keptT (X:=[]) own.out hk5 (by simp))
   have EMq:=Lib.hid (EM.out.kept hk5 (by simp))
   have hks : Kept [g] w4 (w4.setCell ⟨g,0,none⟩ (.slice A9 (n + 1) c9)):=(Kept.refl [g] w4).set g 0 _ (.inl (by simp))
   have hbA : ∀ x,x < n + 1 → updN bs n g' x ∉ (Value.slice A n cA).ownBlock.toList:=fun x hx hm => by
     have h1 : (Value.slice A n cA).ownBlock = some (updN bs n g' x):=by simpa using hm
     have h2:=own_tag OWQ.out h1
     unfold updN at h2
     by_cases e : x = n
     · rw [if_pos e] at h2;exact absurd rfl (HTG.out.ne h2 (by decide))
     · rw [if_neg e] at h2;exact absurd rfl ((EMq.out.1 x (by omega)).2.1.ne h2 (by decide))
   have EM2:=EMq.out.snoc (g:=g') (by simp at hg';omega) HTG.out HCL.out (fun x hx e => by
     have h1:=(EM.out.1 x hx).2.1.lt
     simp at hg'
     omega)
   have EM3:=(EM2.kept HKB.out hbA).kept hks (fun x hx => by have h1:=(EM2.1 x hx).1;simp;omega)
   have OW3:=own_keptT HO4.out hks (fun y hy => by have:=own_ge HO4.out hy;simp;omega)
   go_wp2_with fail
   exact ⟨⟨n + 1,A9,c9,updN bs n g',updN rc n c',by omega,by go_num,(hkr.next HKA.out (fun y hy => Or.inr (HXA.out y hy))).next hks (fun y hy => Or.inl hy),Lib.hid ((HKA.out.blk xg BG.out).set 0 _),Lib.hid OW3,Lib.hid EM3⟩,by simp [intOf];omega⟩
 obtain rfl : n = n1:=by omega
 obtain ⟨go,cr,hv,hbr,hgl,-,-,hcell,-⟩:=own_cellsT own.out hn1p
 have htr : Tag wr go 39:=own_tag own.out (by rw [hv];rfl)
 injection hv with e1 e2 e3
 subst e1
 subst e3
 have hM0 : ∀ n d,(M 0 n d).1 = ⟨0,0⟩:=fun n d => HM.out 0 (Nat.zero_le _) n d
 have VWR : Vw n f wr go bs rc (M 0):=by
   refine ⟨hgl,fun x hx => ?_,fun x a hx ha => ?_,fun x i hx => (EM.out.1 x hx).2.1.frozen i,fun x hx => (EM.out.1 x hx).2.1.lt,fun x y hx hy e => EM.out.2 x y hx hy e,fun x hx => (EM.out.1 x hx).2.1.ne htr (by decide)⟩
   · rw [hcell x (by omega)]
     simp [hx]
   · rw [hM0 x a]
     exact ⟨(EM.out.1 x hx).2.2 _ (by omega),(EM.out.1 x hx).2.2 _ (by omega)⟩
 have hfzg : ∀ i,wr.frozen? ⟨go,i,none⟩ = false:=fun i => htr.frozen i
 have HBS : Hid (∀ x,x < n → V.heap.size ≤ bs x):=Lib.hid (fun x hx => (EM.out.1 x hx).1)
 have hwr : Kept [] w wr:=kept_fresh hwV hkr (by simpa using hgw)
 have HVWR:=Lib.hid VWR
 clear hcell VWR hM0 EM own hlt
 go_upto_region 12 with (go_at_call 15;refine (rall_any A1 A2 n c1 n2 c2 (mN : Int) (mN : Int) 8 2000 p.ns p.es _ (HG.out.later hwr.toBelow) HCH.out (by omega) (by omega)).mono ?_;rintro e w5 ⟨Ax,cx,m,hm,rfl,hpx,hb5⟩;have HM0:=Lib.hid hm;have HPX:=Lib.hid hpx;clear hm hpx)
 have HME : Hid (m = L.length):=Lib.hid (by rw [HM0.out,HL.out])
 have hk5 : Kept [] wr w5:=(Kept.refl _ _).call hb5
 have HLR5 : Hid (LRV wr.heap.size w5 Ax L):=Lib.hid (fun h0 => by
   obtain ⟨b,o,e,hge,hl,hc⟩:=HPX.out (by rw [HME.out];exact h0)
   rw [HL.out] at hc
   exact ⟨b,o,e,hge,hl,fun i l hi => by obtain ⟨Ai,ni,ci,h1,h2⟩:=hc i l hi;exact ⟨Ai,ni,ci,h1,h2.1⟩⟩)
 have hm2 : m ≤ 2000:=by rw [HME.out];exact hLlen
 have hkw5 : Kept [] w w5:=keptTrans hwr hk5
 have B05:=hk5.blk (by simp) BR0
 have B15:=hk5.blk (by simp) (hkr.blk (by simpa using hb1g) B1V)
 have BG5:=hk5.blk (by simp) BG.out
 have HV5:=Lib.hid (HVWR.out.keep hk5)
 have ⟨L05,C05,F05⟩:=B05
 have ⟨LG5,CG5,FG5⟩:=BG5
 have fz5 : ∀ i,w5.frozen? ⟨go,i,none⟩ = false:=fun i => (hk5.frozen go i hgl (by simp)).trans (hfzg i)
 have x0o : b0 ≠ go:=by have:=B0V.1;omega
 have x1o : b1 ≠ go:=by have:=B1V.1;omega
 have xgo : g ≠ go:=by omega
 have hwo : w.heap.size ≤ go:=by have:=hwV.size;omega
 have hgl5 : go < w5.heap.size:=Nat.lt_of_lt_of_le hgl hk5.size
 have hsz5:=hk5.size
 clear C0r F0r CGr FGr hfzg
 go_wp2_with fail
 go_loopw [11] (fun s11 wq => ∃ (i : Nat) (rw rc : Nat → Nat),i ≤ m ∧ s11 = .int .i64 i ∧ Kept [go] w5 wq ∧ Hid (Vw n f wq go rw rc (M i)) ∧ Hid (∀ x,x < n → V.heap.size ≤ rw x) ∧ Hid (∀ x,wq.frozen? ⟨go,x,none⟩ = false) ∧ Hid (LRV wr.heap.size wq Ax L)) (fun s11 _ => m - (intOf s11).toNat)
 case atStart => exact ⟨0,bs,rc,Nat.zero_le _,rfl,Kept.refl _ _,HV5,HBS,Lib.hid fz5,HLR5⟩
 case round =>
 clear C05 F05 CG5 FG5
 rename World => wq
 obtain ⟨i,rw9,rc9,hi,rfl,hkq,VQ,RQ,FZQ,LRq⟩:=hrel
 have B0q:=hkq.blk (by simp [x0o]) B05
 have B1q:=hkq.blk (by simp [x1o]) B15
 have BGq:=hkq.blk (by simp [xgo]) BG5
 have ⟨L0q,C0q,F0q⟩:=B0q
 have ⟨LGq,CGq,FGq⟩:=BGq
 have hkwq : Kept [] w wq:=kept_fresh hkw5 hkq (by simp [hwo])
 by_cases hlt : i < m
 case neg =>
   obtain rfl : i = m:=by omega
   have ⟨L1q,C1q,F1q⟩:=B1q
   clear hlt
   go_wp2_with fail
   refine retNamedT (fun Y => Blk Y b1 [.slice (some ⟨go,0,none⟩) n cA] ∧ Kept [b1] wq Y ∧ Vw n f Y go rw9 rc9 (M i)) ⟨B1q.set 0 _,(Kept.refl [b1] wq).set b1 0 _ (.inl (by simp)),VQ.out.kept ((Kept.refl [b1] wq).set b1 0 _ (.inl (by simp))) (by simpa using x1o.symm) (fun x hx => by have:=RQ.out x hx;have:=B1V.1;simp;omega)⟩ ?_
   rintro Y ⟨BY,hkY,hVY⟩
   have ⟨LY,CY,FY⟩:=BY
   refine bodyPost_ret (by simp [results,Tryz.results16,go_sem,CY];try rfl) rfl ?_
   exact ⟨go,cA,rw9,rc9,M i,rfl,hVY,fun x d => by rw [HM.out i (by rw [HME.out];exact Nat.le_refl _) x d,HME.out],(kept_fresh hkwq hkY (by simpa using G1)).toBelow⟩
 obtain ⟨l,hl⟩ : ∃ l,L[i]? = some l:=⟨_,List.getElem?_eq_getElem (by rw [← HME.out];exact hlt)⟩
 have hmem:=List.mem_of_getElem? hl
 have HRL:=Lib.hid (HRUN.out l hmem)
 have HLL:=Lib.hid (HLP.out l hmem)
 have HPI:=Lib.hid (run_rng l HRL.out)
 have hend : 0 ≤ (runS p.es p.mn [] l).2.1 ∧ (runS p.es p.mn [] l).2.1 < p.ns.length:=run_in9 HO.out (path:=l) (st:=(runS p.es p.mn [] l).2.2) (Prod.ext HRL.out rfl)
 obtain ⟨nd,hnd⟩:=Int.eq_ofNat_of_zero_le hend.1
 have hndn : nd < n:=by have:=HNL.out;omega
 have HNE : Hid ((runS p.es p.mn [] l).2.1 = (nd : Int)):=Lib.hid hnd
 have HND : Hid (endS p.es (mN : Int) l = (nd : Int)):=Lib.hid (by rw [← HMN.out,← runS_end l HRL.out];exact hnd)
 have HLD : Hid (L.getD i [] = l):=Lib.hid (by simp [hl])
 obtain ⟨bP,oP,rfl,hgeP,hlP,hcP⟩:=LRq.out (by rw [← HME.out];omega)
 obtain ⟨Ai,ni,ci,hrP,hiP⟩:=hcP i l hl
 have HIP:=Lib.hid hiP
 have hni : ni ≤ 8:=by have:=hiP.1;have:=HLL.out;omega
 have hi9 : (i : Int) < (m : Int):=by omega
 have row1:=VQ.out.row nd hndn
 have hgoq : go < wq.heap.size:=VQ.out.glt
 have fzq : wq.frozen? ⟨go,nd,none⟩ = false:=FZQ.out nd
 have hnd9 : (nd : Int) < (n : Int):=by omega
 have HSTEP : Hid ((fun x a => if x = nd then M (i + 1) nd a else M i x a) = M (i + 1)):=Lib.hid (by
   funext x a
   by_cases e : x = nd
   · rw [if_pos e,e]
   · rw [if_neg e]
     apply Subtype.ext
     rw [HM.out i (by rw [← HME.out];omega),HM.out (i + 1) (by rw [← HME.out];omega),upV]
     show _ = if (runS p.es p.mn [] (L.getD i [])).2.1 = (x : Int) then _ else _
     rw [HLD.out,HNE.out,if_neg (by omega)])
 have HVAL : Hid (∀ a,(M (i + 1) nd a).1 = Xf.rmeetV (M i nd a).1 (runJ Xf.rmeetV Xf.rapply p.es p.fl p.sd (mN : Int) l l.length a)):=Lib.hid (fun a => by
   rw [HM.out i (by rw [← HME.out];omega),HM.out (i + 1) (by rw [← HME.out];omega),upV]
   show (if (runS p.es p.mn [] (L.getD i [])).2.1 = (nd : Int) then _ else _) = _
   rw [HLD.out,HNE.out,if_pos rfl,← HMN.out])
 clear hcP hl hend hnd hmem hiP
 go_upto_region 15 with fail
 refine wp_region_E 7 (fun w' => SX0 wq w') (by kernel_rfl) (by (exact kp0)) (fun hHeld => ?_)
 refine WE_tk 0 ?_
 refine WE_tk 1 ?_
 refine WE_tk 2 ?_
 refine WE_tk 3 ?_
 refine WE_tk 4 ?_
 refine WE_tk 5 ?_
 refine WE_step 6 rfl (by kernel_rfl) (fun K hK => ?_)
 go_simp
 (go_at_call 44;refine (rend34_any A1 A2 Ai n c1 n2 c2 ni ci (mN : Int) p.es l _ (HG.out.ed.later (hkwq.drew).toBelow) (HIP.out.later ((Kept.refl [] _).drew).toBelow) HPI.out (by have:=HLL.out;omega) nd HND.out).mono ?_;rintro e w6 ⟨rfl,hb6⟩)
 (try go_wp2_with fail)
 refine hK.out _ _ ?_ (fun hHeld => ?_)
 · (exact kp0)
 clear hK K
 refine WE_put ?_
 refine WE_last rfl (by kernel_rfl) (fun K hK => ?_)
 go_simp
 refine hK.out _ _ ?_
 clear hK K
 have hk6 : Kept [] wq w6:=hHeld.1
 have B06:=hk6.blk (by simp) B0q
 have BG6:=hk6.blk (by simp) BGq
 have ⟨L06,C06,F06⟩:=B06
 have ⟨LG6,CG6,FG6⟩:=BG6
 have hkw6 : Kept [] w w6:=keptTrans hkwq hk6
 have HV6:=Lib.hid (VQ.out.keep hk6)
 have HLR6:=Lib.hid (LRq.out.kept hk6)
 have HIP6:=Lib.hid (HIP.out.later hk6.toBelow)
 have row6:=HV6.out.row nd hndn
 have hgo6 : go < w6.heap.size:=HV6.out.glt
 have fz6 : w6.frozen? ⟨go,nd,none⟩ = false:=(hk6.frozen go nd hgoq (by simp)).trans fzq
 have hrP6 : w6.cell? ⟨bP,oP + i,none⟩ = some (.slice Ai ni ci):=(hk6.cell bP _ hlP (by simp)).trans hrP
 have hlP6 : bP < w6.heap.size:=Nat.lt_of_lt_of_le hlP hk6.size
 have HROW : Hid (Vals w6 (rw9 nd) f (fun a => (M i nd a).1)):=Lib.hid ⟨HV6.out.lt nd hndn,fun a ha => (HV6.out.cell nd a hndn ha).1,fun a ha => (HV6.out.cell nd a hndn ha).2,fun x => HV6.out.fr nd x hndn⟩
 clear C0q F0q CGq FGq hHeld hrP hlP row1 fzq
 go_upto_region 16 with fail
 refine wp_region_E 16 (fun w' => SX0 w6 w') (by kernel_rfl) (by (exact kp0)) (fun hHeld => ?_)
 refine WE_tk 0 ?_
 refine WE_tk 1 ?_
 refine WE_tk 2 ?_
 refine WE_tk 3 ?_
 refine WE_tk 4 ?_
 refine WE_tk 5 ?_
 refine WE_tk 6 ?_
 refine WE_tk 7 ?_
 refine WE_tk 8 ?_
 refine WE_tk 9 ?_
 refine WE_tk 10 ?_
 refine WE_tk 11 ?_
 refine WE_tk 12 ?_
 refine WE_step 13 rfl (by kernel_rfl) (fun K hK => ?_)
 go_simp
 (first | (go_at_call 38;refine (ralong_any A1 A2 A3 A4 Ai n c1 n2 c2 n3 c3 n4 c4 ni ci f (mN : Int) p.ns p.es p.fl p.sd l _ (HG.out.ed.later (keptTrans hkw6 hHeld.1).toBelow) (HF.out.later (keptTrans hkw6 hHeld.1).toBelow) (HS.out.later (keptTrans hkw6 hHeld.1).toBelow) (HIP6.out.later hHeld.1.toBelow) (by omega) HPO.out (by have:=HLL.out;omega) HPI.out).mono ?_;rintro e w7 ⟨ga,ca,rfl,hva,hga,-,hb7⟩;have HVA:=Lib.hid hva;clear hva) | (go_at_call 45;refine (rfold_any (rw9 nd) ga f (rc9 nd) ca _ _ _ hf1 hf2 (HROW.out.kept hHeld.1 (by simp)) HVA.out).mono ?_;rintro e w8 ⟨g8,c8,rfl,hv8,hg8,-,hb8⟩;have HV8:=Lib.hid hv8;clear hv8))
 (try go_wp2_with fail)
 refine hK.out _ _ ?_ (fun hHeld => ?_)
 · (exact kp0)
 clear hK K
 refine WE_put ?_
 refine WE_step 14 rfl (by kernel_rfl) (fun K hK => ?_)
 go_simp
 (first | (go_at_call 38;refine (ralong_any A1 A2 A3 A4 Ai n c1 n2 c2 n3 c3 n4 c4 ni ci f (mN : Int) p.ns p.es p.fl p.sd l _ (HG.out.ed.later (keptTrans hkw6 hHeld.1).toBelow) (HF.out.later (keptTrans hkw6 hHeld.1).toBelow) (HS.out.later (keptTrans hkw6 hHeld.1).toBelow) (HIP6.out.later hHeld.1.toBelow) (by omega) HPO.out (by have:=HLL.out;omega) HPI.out).mono ?_;rintro e w7 ⟨ga,ca,rfl,hva,hga,-,hb7⟩;have HVA:=Lib.hid hva;clear hva) | (go_at_call 45;refine (rfold_any (rw9 nd) ga f (rc9 nd) ca _ _ _ hf1 hf2 (HROW.out.kept hHeld.1 (by simp)) HVA.out).mono ?_;rintro e w8 ⟨g8,c8,rfl,hv8,hg8,-,hb8⟩;have HV8:=Lib.hid hv8;clear hv8))
 (try go_wp2_with fail)
 refine hK.out _ _ ?_ (fun hHeld => ?_)
 · (exact kp0)
 clear hK K
 refine WE_put ?_
 refine WE_tk 15 ?_
 refine WE_last rfl (by kernel_rfl) (fun K hK => ?_)
 go_simp
 refine hK.out _ _ ?_
 clear hK K
 have hk8 : Kept [] w6 w8:=hHeld.1
 have hs7 : w6.heap.size ≤ g8:=by have h1:=hb7.size;simp at h1;omega
 have VT:=(HV6.out.keep hk8).turn (g:=g8) (c:=c8) (v:=M (i + 1) nd) hndn HV8.out.lt (by omega) (fun x hx e => by have:=HV6.out.lt x hx;omega) (fun a ha => by rw [HVAL.out a];exact ⟨HV8.out.c0 a ha,HV8.out.c1 a ha⟩) HV8.out.fz
 rw [HSTEP.out] at VT
 have HVT:=Lib.hid VT
 have HL8:=Lib.hid ((HLR6.out.kept hk8).set (k:=nd) (v:=.slice (some ⟨g8,0,none⟩) f c8) (by omega) ((HV6.out.keep hk8).row nd hndn))
 have hk9 : Kept [go] w5 (w8.setCell ⟨go,nd,none⟩ (.slice (some ⟨g8,0,none⟩) f c8)):=((hkq.next hk6 (by simp)).next hk8 (by simp)).set _ _ _ (.inl (by simp))
 have HR9 : Hid (∀ x,x < n → V.heap.size ≤ updN rw9 nd g8 x):=Lib.hid (fun x hx => by
   unfold updN
   split
   · have:=hk6.size;have:=hkq.size;omega
   · exact RQ.out x hx)
 have HFZ9 : Hid (∀ x,(w8.setCell ⟨go,nd,none⟩ (.slice (some ⟨g8,0,none⟩) f c8)).frozen? ⟨go,x,none⟩ = false):=Lib.hid (fun x => (World.frozen?_setCell _ _ _ _).trans (((hk6.next hk8 (by simp)).frozen go x hgoq (by simp)).trans (FZQ.out x)))
 clear VT
 go_wp2_with fail
 exact ⟨⟨i + 1,updN rw9 nd g8,updN rc9 nd c8,by omega,by go_num,hk9,HVT,HR9,HFZ9,HL8⟩,by simp [intOf];omega⟩
end Go.Proofs.YtincpmdldpakkaaGreatDoor
namespace Go.Proofs.YtincpmdldpakkaaGreatDoor
open Go.RowKit Go.Df
attribute [local go_sem ↓] Go.wp_at_zero Go.wp_at_succ
set_option maxHeartbeats 400000 in
theorem rbelow_any (k n k' n' : Int) (w : World) :
   Calls Tryz.prog 12 #[.agg #[.int .i64 k,.int .i64 n],.agg #[.int .i64 k',.int .i64 n']] w fun e w' => e = .returned (.bool (Xf.rbelow ⟨k,n⟩ ⟨k',n'⟩)) ∧ Below w.heap.size w w':=by
 go_enter Tryz.func12,Tryz.ntmps12
 go_wp2
 all_goals (go_returns;refine ⟨ret_bool ?_,by go_grown⟩;simp_all [Xf.rbelow];try (rw [Bool.eq_iff_iff];simp_all))
set_option maxRecDepth 100000 in
set_option maxHeartbeats 2000000 in
theorem rfew_any (A1 A2 : Option Addr) (n1 c1 n2 c2 : Nat) (mn : Int) (ns : List Sp.Nd) (es : List Sp.Ed) (w : World) (hg : Gr w A1 n1 A2 n2 ns es) (hc : Sp.chkErr ns es mn mn = 0) (m : Nat) (hm : (Sp.itI es 2000 mn (9 + 1)).1.length = m) :
   Calls Tryz.prog 13 #[.agg #[.slice A1 n1 c1,.slice A2 n2 c2,.int .i64 mn],.int .i64 9] w fun e w' => e = .returned (.bool (decide ((m : Int) < 2000))) ∧ Below w.heap.size w w':=by
 have HM:=Lib.hid hm
 have hm2 : m ≤ 2000:=by rw [← hm];exact Sp.itI_out_len _
 have HAL : Hid (∀ w1,Below w.heap.size w w1 → Calls Tryz.prog 15 #[.agg #[.slice A1 n1 c1,.slice A2 n2 c2,.int .i64 mn],.int .i64 mn,.int .i64 9,.int .i64 2000] w1 fun e w' => ∃ A c,e = .returned (.tuple #[.slice A m c,.int .i64 0]) ∧ Below w1.heap.size w1 w'):=Lib.hid (fun w1 hb => by
   refine (rall_any A1 A2 n1 c1 n2 c2 mn mn 9 2000 ns es w1 (hg.later hb) hc (by omega) (by omega)).mono ?_
   rintro e w' ⟨A,c,n,hn,he,-,hb'⟩
   have e9 : n = m:=hn.trans hm
   subst e9
   exact ⟨A,c,he,hb'⟩)
 clear hm hg hc
 go_enter Tryz.func13,Tryz.ntmps13
 go_upto_region 1 with fail
 refine wp_named (fun W => ∃ b0,w.heap.size = b0 ∧ Blk W b0 [.slice A1 n1 c1,.slice A2 n2 c2,.int .i64 mn] ∧ Below w.heap.size w W) ⟨_,rfl,?_,?_⟩ ?_
 · exact kbn
 · go_grown
 rintro W ⟨b0,e0,B0,hB⟩
 rw [e0]
 have G0 : w.heap.size ≤ b0:=by omega
 clear e0
 have ⟨L0,C0,F0⟩:=B0
 go_upto_region 2 with (go_at_call 15;refine (HAL.out _ hB).mono ?_;rintro e w5 ⟨Ax,cx,rfl,hb5⟩)
 have hB5 : Below w.heap.size w w5:=((Kept.refl [] W).call hb5).below hB hB.size (by simp)
 go_wp2_with fail
 go_ret
 exact ⟨rfl,hB5⟩
end Go.Proofs.YtincpmdldpakkaaGreatDoor
namespace Go.Df
open Go.RowKit
structure ObjT (w : World) (t : Nat → Nat) (g : Nat) (o : Obj) (m : Nat) : Prop where
 heap : w.heap[g]? = some o
 tag : t g = m
theorem ObjT.lt {w : World} {t : Nat → Nat} {g m : Nat} {o : Obj} (h : ObjT w t g o m) : g < w.heap.size:=(Array.getElem?_eq_some_iff.1 h.heap).1
theorem ObjT.grow {w w' : World} {t t' : Nat → Nat} {g m : Nat} {o : Obj} (h : ObjT w t g o m) (hg : Grow w t w' t') : ObjT w' t' g o m:=⟨(hg.1.block g h.lt (by simp)).trans h.heap,(hg.2 g h.lt).trans h.tag⟩
theorem ObjT.ne {w : World} {t : Nat → Nat} {g g' m m' : Nat} {o o' : Obj} (h : ObjT w t g o m) (h' : ObjT w t g' o' m') (hm : m ≠ m') : g ≠ g':=fun e => hm (by rw [← h.tag,← h'.tag,e])
theorem ObjT.new (w : World) (t : Nat → Nat) (o : Obj) (m : Nat) : ObjT (w.alloc o) (Go.Df.mark t w.heap.size m) w.heap.size o m:=⟨heap_alloc_new w o,mark_same _ _ _⟩
theorem ObjT.at {w : World} {t : Nat → Nat} {g m : Nat} {o : Obj} (h : w.heap[g]? = some o) : ObjT w (Go.Df.mark t g m) g o m:=⟨h,mark_same _ _ _⟩
end Go.Df
namespace Go.Proofs.YtincpmdldpakkaaGreatDoor
open Go.RowKit Go.Df
attribute [local go_sem ↓] Go.wp_at_zero Go.wp_at_succ
theorem newX_info : (Tryz.prog.info? 84).map (fun i => (i.zero,i.size,i.bytes)) = some (some (.map none),1,8):=by kernel_rfl
set_option maxRecDepth 100000 in
set_option maxHeartbeats 4000000 in
theorem newX_any (n : Nat) (w : World) (hn : n ≤ 1000000) (M : Array Value) (hM : (List.replicate n (Value.map none)).toArray = M) :
   Calls Tryz.prog 129 #[.int .i64 n] w fun e w' => ∃ g,e = .returned (.agg #[.slice (some ⟨g,0,none⟩) n n]) ∧ w'.heap[g]? = some (.cells M 84 (0,0)) ∧ w.heap.size ≤ g ∧ Below w.heap.size w w':=by
 obtain ⟨i0,hi,hz0,hz1,hz2⟩:=info_parts newX_info
 have hmk:=fun w => run_make1 (P:=Tryz.prog) Tryz.underlying85 hi hz0 hz1 hz2 rfl n (by omega) (by omega) M hM w
 have HM:=Lib.hid hM
 clear hM
 go_enter Tryz.func129,Tryz.ntmps129
 go_wp2
 go_returns
 refine ⟨w.heap.size + 1,rfl,?_,by omega,(((Kept.refl [] w).alloc _).alloc _).toBelow⟩
 have h1:=heap_alloc_new (w.alloc (.cells #[.slice (some ⟨w.heap.size + 1,0,none⟩) n n] 87)) (.cells M 84)
 simpa using h1
theorem newL_info : (Tryz.prog.info? 233).map (fun i => (i.zero,i.size,i.bytes)) = some (some (.map none),1,8):=by kernel_rfl
set_option maxRecDepth 100000 in
set_option maxHeartbeats 4000000 in
theorem newL_any (n : Nat) (w : World) (hn : n ≤ 1000000) (M : Array Value) (hM : (List.replicate n (Value.map none)).toArray = M) :
   Calls Tryz.prog 130 #[.int .i64 n] w fun e w' => ∃ g,e = .returned (.agg #[.slice (some ⟨g,0,none⟩) n n]) ∧ w'.heap[g]? = some (.cells M 233 (0,0)) ∧ w.heap.size ≤ g ∧ Below w.heap.size w w':=by
 obtain ⟨i0,hi,hz0,hz1,hz2⟩:=info_parts newL_info
 have hmk:=fun w => run_make1 (P:=Tryz.prog) Tryz.underlying89 hi hz0 hz1 hz2 rfl n (by omega) (by omega) M hM w
 have HM:=Lib.hid hM
 clear hM
 go_enter Tryz.func130,Tryz.ntmps130
 go_wp2
 go_returns
 refine ⟨w.heap.size + 1,rfl,?_,by omega,(((Kept.refl [] w).alloc _).alloc _).toBelow⟩
 have h1:=heap_alloc_new (w.alloc (.cells #[.slice (some ⟨w.heap.size + 1,0,none⟩) n n] 91)) (.cells M 233)
 simpa using h1
theorem newV_info : (Tryz.prog.info? 179).map (fun i => (i.zero,i.size,i.bytes)) = some (some (.map none),1,8):=by kernel_rfl
set_option maxRecDepth 100000 in
set_option maxHeartbeats 4000000 in
theorem newV_any (n : Nat) (w : World) (hn : n ≤ 1000000) (M : Array Value) (hM : (List.replicate n (Value.map none)).toArray = M) :
   Calls Tryz.prog 131 #[.int .i64 n] w fun e w' => ∃ g,e = .returned (.agg #[.slice (some ⟨g,0,none⟩) n n]) ∧ w'.heap[g]? = some (.cells M 179 (0,0)) ∧ w.heap.size ≤ g ∧ Below w.heap.size w w':=by
 obtain ⟨i0,hi,hz0,hz1,hz2⟩:=info_parts newV_info
 have hmk:=fun w => run_make1 (P:=Tryz.prog) Tryz.underlying92 hi hz0 hz1 hz2 rfl n (by omega) (by omega) M hM w
 have HM:=Lib.hid hM
 clear hM
 go_enter Tryz.func131,Tryz.ntmps131
 go_wp2
 go_returns
 refine ⟨w.heap.size + 1,rfl,?_,by omega,(((Kept.refl [] w).alloc _).alloc _).toBelow⟩
 have h1:=heap_alloc_new (w.alloc (.cells #[.slice (some ⟨w.heap.size + 1,0,none⟩) n n] 94)) (.cells M 179)
 simpa using h1
end Go.Proofs.YtincpmdldpakkaaGreatDoor
