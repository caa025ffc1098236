/- Texts: Si Sk Sl. -/
import Derived.Test.YtincpmdldpakkaaGreatDoorMt05
import Derived.Test.YtincpmdldpakkaaGreatDoorMt09
import Derived.Maps.OwnOps
namespace Go.Proofs.YtincpmdldpakkaaGreatDoor
open Go.RowKit Go.Df
attribute [local go_sem ↓] Go.wp_at_zero Go.wp_at_succ
set_option maxRecDepth 100000 in
set_option maxHeartbeats 4000000 in
theorem starts_any (A1 A2 : Option Addr) (n1 c1 n2 c2 : Nat) (mn : Int) (ns : List Sp.Nd) (w : World) (hn : Nds w A1 n1 ns) (hs : n1 ≤ 1000000) (hw : ∀ j,j < n1 → (Lit.int .i64 (gn ns j).f).wf = true) :
   Calls Tryz.prog 124 #[.agg #[.slice A1 n1 c1,.slice A2 n2 c2,.int .i64 mn]] w fun e w' => Below w.heap.size w w' ∧
     (((∃ j,j < n1 ∧ Sp.cnt ns n1 (gn ns j).f ≠ 3) ∧ e = .returned (.tuple #[.map none,.bool false])) ∨
      ((∀ j,j < n1 → Sp.cnt ns n1 (gn ns j).f = 3) ∧ ∃ b,w.heap.size ≤ b ∧ e = .returned (.tuple #[.map (some b),.bool true]) ∧ MapV Tryz.prog 3 3 (.int .i64 0) w' b n1 (mv (Sp.lst ns n1)))):=by
 have HN:=Lib.hid hn
 have HL:=Lib.hid hn.1
 have HWF:=Lib.hid hw
 clear hn hw
 go_enter Tryz.func124,Tryz.ntmps124
 go_upto_region 1 with fail
 refine wp_named (fun W => ∃ b0,w.heap.size = b0 ∧ Blk W b0 [.slice A1 n1 c1,.slice A2 n2 c2,.int .i64 mn] ∧ Below w.heap.size w W) ⟨_,rfl,?_,?_⟩ ?_
 · exact kbn
 · go_grown
 rintro W ⟨b0,e0,B0,hB⟩
 rw [e0]
 have G0 : w.heap.size ≤ b0:=by omega
 clear e0
 have ⟨L0,C0,F0⟩:=B0
 have HW:=Lib.hid (HN.out.later hB)
 have hmm:=@run_makeMap Tryz.prog
 go_upto_region 2 with fail
 refine wp_named (fun V => ∃ p q,W.heap.size = p ∧ W.heap.size + 1 = q ∧ MapV Tryz.prog 3 3 (.int .i64 0) V p 0 (fun _ => .int .i64 0) ∧ MapV Tryz.prog 3 3 (.int .i64 0) V q 0 (fun _ => .int .i64 0) ∧ Kept [] W V) ⟨_,_,rfl,rfl,(MapV.made _ _ _ _ _ _ rfl).kept ((Kept.refl [] _).alloc _) (by simp),MapV.made _ _ _ _ _ _ (by simp),((Kept.refl _ _).alloc _).alloc _⟩ ?_
 rintro V ⟨p,q,ep,eq,Mp,Mq,hkV⟩
 rw [eq,ep]
 have hpq : p ≠ q:=by omega
 have hpL : p < V.heap.size:=Mp.lt
 have hqL : q < V.heap.size:=Mq.lt
 have hp0 : p ≠ b0:=by omega
 have hq0 : q ≠ b0:=by omega
 have hpw : w.heap.size ≤ p:=by have:=hB.size;omega
 have hqw : w.heap.size ≤ q:=by have:=hB.size;omega
 have BV:=hkV.blk (by simp) B0
 have ⟨LV,CV,FV⟩:=BV
 have HNV:=Lib.hid (HW.out.kept hkV)
 have hbV:=hkV.below hB hB.size (by simp)
 have MP:=Lib.hid Mp
 have MQ:=Lib.hid Mq
 clear C0 F0 hkV ep eq Mp Mq
 go_wp2_with fail
 go_loopw [15] (fun i wr => ∃ j : Nat,j ≤ n1 ∧ i = .int .i64 j ∧ Kept [p,q] V wr ∧ Hid (MapV Tryz.prog 3 3 (.int .i64 0) wr p j (mv (Sp.lst ns j))) ∧ Hid (MapV Tryz.prog 3 3 (.int .i64 0) wr q j (mv (Sp.cnt ns j)))) (fun i _ => n1 - (intOf i).toNat)
 case atStart => exact ⟨0,Nat.zero_le _,rfl,Kept.refl _ _,Lib.hid (MP.out.ext (fun key _ _ => by unfold mv;split <;> rfl)),Lib.hid (MQ.out.ext (fun key _ _ => by unfold mv;split <;> rfl))⟩
 case round =>
   obtain ⟨j,hj,rfl,hkr,mp,mq⟩:=hrel
   have hbr : Below w.heap.size w wr:=hkr.below hbV hbV.size (by intro x hx;simp at hx;omega)
   by_cases hlt : j < n1
   · obtain ⟨b,o,rfl,hl,hc⟩:=HN.out.2 (by omega)
     obtain ⟨h1,h2,h3⟩:=hc j hlt
     clear hc
     have hwf:=HWF.out j hlt
     obtain ⟨nf,nk,ni,en⟩ : ∃ nf nk ni,gn ns j = ⟨nf,nk,ni⟩:=⟨_,_,_,rfl⟩
     rw [en] at h1 h2 h3 hwf
     have r1 : wr.cell? ⟨b,o + j * 3,none⟩ = some (.int .i64 nf):=(hbr.cell (p:=⟨b,_,none⟩) hl).trans h1
     have r2 : wr.cell? ⟨b,o + j * 3 + 1,none⟩ = some (.int .i64 nk):=(hbr.cell (p:=⟨b,_,none⟩) hl).trans h2
     have r3 : wr.cell? ⟨b,o + j * 3 + 2,none⟩ = some (.int .i64 ni):=(hbr.cell (p:=⟨b,_,none⟩) hl).trans h3
     have hl' : b < wr.heap.size:=Nat.lt_of_lt_of_le hl hbr.size
     have HKY:=Lib.hid (Tryz.keyInt nf hwf)
     have HVJ:=Lib.hid (plainElem_int (H:=Unit) Tryz.undInt (a:=(j : Int)) (WalkArith.wf_i64 (by omega)))
     have HE:=Lib.hid en
     obtain ⟨c,hc⟩ : ∃ c,Sp.cnt ns j nf = c:=⟨_,rfl⟩
     have hcb:=Sp.cnt_le ns nf j
     rw [hc] at hcb
     have hw1 : IntKind.i64.wrap (c + 1) = c + 1:=IntWalk.i64_in _ (by omega)
     have HVC:=Lib.hid (plainElem_int (H:=Unit) Tryz.undInt (a:=c + 1) (WalkArith.wf_i64 (by omega)))
     have HCQ:=Lib.hid (show mv (Sp.cnt ns j) (.int .i64 nf) = .int .i64 c from congrArg _ hc)
     have HC:=Lib.hid hc
     clear en h1 h2 h3 hl hc hwf
     go_upto_region 5 with fail
     refine wp_named (fun X => ∃ g,wr.heap.size = g ∧ Blk X g [.int .i64 nf,.int .i64 nk,.int .i64 ni] ∧ Kept [] wr X) ⟨_,rfl,Blk.new _ _ _ _ rfl,(Kept.refl _ _).alloc _⟩ ?_
     rintro X ⟨g,eg,Bg,hkX⟩
     rw [eg]
     have hgp : g ≠ p:=by have:=hkr.size;omega
     have hgq : g ≠ q:=by have:=hkr.size;omega
     have ⟨LG,CG,FG⟩:=Bg
     have mpx:=Lib.hid (mp.out.kept hkX (by simp))
     have mqx:=Lib.hid (mq.out.kept hkX (by simp))
     have hkw : Kept [p,q] V X:=hkr.next hkX (by simp)
     have BG:=Lib.hid Bg
     clear r1 r2 r3 hl' eg hkX mp mq hkr Bg
     by_cases k1 : nk = 1
     · have k1' : (nk == 1) = true:=by simpa using k1
       have HG1:=Lib.hid (show mv (Sp.lst ns (j + 1)) (.int .i64 nf) = .int .i64 (j : Int) from congrArg (Lit.int .i64) (by unfold Sp.lst;rw [HE.out];simp [k1]))
       have HG2:=Lib.hid (mv_put (g:=Sp.lst ns j) (g':=Sp.lst ns (j + 1)) (a:=nf) (fun x hx => by rw [Sp.lst,HE.out,if_neg (fun hh => hx hh.1.symm)]))
       have HG3:=Lib.hid (show mv (Sp.cnt ns (j + 1)) (.int .i64 nf) = .int .i64 (c + 1) from congrArg (Lit.int .i64) (by unfold Sp.cnt;rw [HE.out,HC.out];simp [k1]))
       have HG4:=Lib.hid (mv_put (g:=Sp.cnt ns j) (g':=Sp.cnt ns (j + 1)) (a:=nf) (fun x hx => by rw [Sp.cnt,HE.out,if_neg (fun hh => hx hh.1.symm)]))
       clear k1
       go_wp2_with (first
         | (at_mapUpdate;refine wpList_store_map _ rfl _ _ _ 215 rfl 3 3 Tryz.lawInt Tryz.mapII (.int .i64 0) p j _ rfl mpx.out (by unfold maxLen;omega) (.int .i64 nf) (.int .i64 (j : Int)) (.int .i64 nf) _ rfl rfl HKY.out HVJ.out (mv (Sp.lst ns (j + 1))) HG1.out HG2.out ?_;intro w1 M1u hs1;have M1:=Lib.hid M1u;clear M1u;have ⟨LG1,CG1,FG1⟩:=hs1.blk (by simp;omega) BG.out;have BG1:=Lib.hid (hs1.blk (by simp;omega) BG.out);have mq1:=Lib.hid (mqx.out.kept hs1 (by simp;omega));clear CG FG)
         | (at_lookup;refine wpList_look_int _ rfl _ _ 215 rfl 3 3 Tryz.lawInt Tryz.mapII Tryz.undInt (Tryz.zeroInt _) q j _ rfl mq1.out (.int .i64 nf) _ rfl HKY.out c HCQ.out ?_)
         | (at_mapUpdate;refine wpList_store_map _ rfl _ _ _ 215 rfl 3 3 Tryz.lawInt Tryz.mapII (.int .i64 0) q j _ rfl mq1.out (by unfold maxLen;omega) (.int .i64 nf) (.int .i64 (c + 1)) (.int .i64 nf) _ rfl rfl HKY.out HVC.out (mv (Sp.cnt ns (j + 1))) HG3.out HG4.out ?_;intro w2 M2u hs2;have M2:=Lib.hid M2u;clear M2u)
         | go_in)
       have hk12 : Kept [p,q] V w2:=(hkw.next hs1 (by simp)).next hs2 (by simp)
       exact ⟨⟨j + 1,by omega,by go_num,hk12,Lib.hid (M1.out.kept hs2 (by simp;omega)),M2⟩,by simp [intOf];omega⟩
     · have k1' : (nk == 1) = false:=by simpa using k1
       by_cases k3 : nk = 3 ∨ nk = 4
       · have k3' : (nk == 3) = true ∨ ((nk == 3) = false ∧ (nk == 4) = true) := by
           rcases k3 with rfl | rfl
           · exact Or.inl rfl
           · exact Or.inr ⟨rfl,rfl⟩
         have HG1:=Lib.hid (mpx.out.mono (Nat.le_succ j))
         have HG2:=Lib.hid (show mv (Sp.lst ns j) = mv (Sp.lst ns (j + 1)) from congrArg mv (funext (fun x => by rw [Sp.lst,HE.out,if_neg (fun hh => k1 hh.2)])))
         have HG3:=Lib.hid (show mv (Sp.cnt ns (j + 1)) (.int .i64 nf) = .int .i64 (c + 1) from congrArg (Lit.int .i64) (by unfold Sp.cnt;rw [HE.out,HC.out];simp [k3]))
         have HG4:=Lib.hid (mv_put (g:=Sp.cnt ns j) (g':=Sp.cnt ns (j + 1)) (a:=nf) (fun x hx => by rw [Sp.cnt,HE.out,if_neg (fun hh => hx hh.1.symm)]))
         clear k1 k3
         rcases k3' with k3' | ⟨k3',k4'⟩
         all_goals
           go_wp2_with (first
             | (at_lookup;refine wpList_look_int _ rfl _ _ 215 rfl 3 3 Tryz.lawInt Tryz.mapII Tryz.undInt (Tryz.zeroInt _) q j _ rfl mqx.out (.int .i64 nf) _ rfl HKY.out c HCQ.out ?_)
             | (at_mapUpdate;refine wpList_store_map _ rfl _ _ _ 215 rfl 3 3 Tryz.lawInt Tryz.mapII (.int .i64 0) q j _ rfl mqx.out (by unfold maxLen;omega) (.int .i64 nf) (.int .i64 (c + 1)) (.int .i64 nf) _ rfl rfl HKY.out HVC.out (mv (Sp.cnt ns (j + 1))) HG3.out HG4.out ?_;intro w2 M2u hs2;have M2:=Lib.hid M2u;clear M2u)
             | go_in)
           have hk12 : Kept [p,q] V w2:=hkw.next hs2 (by simp)
           exact ⟨⟨j + 1,by omega,by go_num,hk12,Lib.hid (HG2.out ▸ HG1.out.kept hs2 (by simp;omega)),M2⟩,by simp [intOf];omega⟩
       · have k3' : (nk == 3) = false:=by simp;omega
         have k4' : (nk == 4) = false:=by simp;omega
         have HG1:=Lib.hid (mpx.out.mono (Nat.le_succ j))
         have HG2:=Lib.hid (show mv (Sp.lst ns j) = mv (Sp.lst ns (j + 1)) from congrArg mv (funext (fun x => by rw [Sp.lst,HE.out,if_neg (fun hh => k1 hh.2)])))
         have HG3:=Lib.hid (mqx.out.mono (Nat.le_succ j))
         have HG4:=Lib.hid (show mv (Sp.cnt ns j) = mv (Sp.cnt ns (j + 1)) from congrArg mv (funext (fun x => by rw [Sp.cnt,HE.out,if_neg (fun hh => by simp only at hh;omega)])))
         clear k1 k3
         go_wp2_with fail
         exact ⟨⟨j + 1,by omega,by go_num,hkw,Lib.hid (HG2.out ▸ HG1.out),Lib.hid (HG4.out ▸ HG3.out)⟩,by simp [intOf];omega⟩
   · obtain rfl : j = n1:=by omega
     have ⟨LR,CR,FR⟩:=hkr.blk (by simp;omega) BV
     have BR:=hkr.blk (by simp;omega) BV
     clear CV FV hlt
     go_wp2_with fail
     go_loopw [45] (fun i wx => ∃ k : Nat,k ≤ j ∧ i = .int .i64 k ∧ Kept [] wr wx ∧ Hid (∀ x,x < k → Sp.cnt ns j (gn ns x).f = 3)) (fun i _ => j - (intOf i).toNat)
     case atStart => exact ⟨0,Nat.zero_le _,rfl,Kept.refl _ _,Lib.hid (fun x hx => absurd hx (by omega))⟩
     case round =>
       rename World => wx
       obtain ⟨k,hk,rfl,hkx,hall⟩:=hrel
       have hbx : Below w.heap.size w wx:=hkx.below hbr hbr.size (by simp)
       have mqx:=Lib.hid (mq.out.kept hkx (by simp))
       by_cases hlt : k < j
       · obtain ⟨b,o,rfl,hl,hc⟩:=HN.out.2 (by omega)
         obtain ⟨h1,h2,h3⟩:=hc k hlt
         clear hc
         have hwf:=HWF.out k hlt
         obtain ⟨nf,nk,ni,en⟩ : ∃ nf nk ni,gn ns k = ⟨nf,nk,ni⟩:=⟨_,_,_,rfl⟩
         rw [en] at h1 h2 h3 hwf
         have r1 : wx.cell? ⟨b,o + k * 3,none⟩ = some (.int .i64 nf):=(hbx.cell (p:=⟨b,_,none⟩) hl).trans h1
         have r2 : wx.cell? ⟨b,o + k * 3 + 1,none⟩ = some (.int .i64 nk):=(hbx.cell (p:=⟨b,_,none⟩) hl).trans h2
         have r3 : wx.cell? ⟨b,o + k * 3 + 2,none⟩ = some (.int .i64 ni):=(hbx.cell (p:=⟨b,_,none⟩) hl).trans h3
         have hl' : b < wx.heap.size:=Nat.lt_of_lt_of_le hl hbx.size
         have HKY:=Lib.hid (Tryz.keyInt nf hwf)
         obtain ⟨c,hc⟩ : ∃ c,Sp.cnt ns j nf = c:=⟨_,rfl⟩
         have HCQ:=Lib.hid (show mv (Sp.cnt ns j) (.int .i64 nf) = .int .i64 c from congrArg _ hc)
         have HC:=Lib.hid (show Sp.cnt ns j (gn ns k).f = c by rw [en];exact hc)
         clear en h1 h2 h3 hl hc hwf
         go_upto_region 16 with fail
         refine wp_named (fun X => ∃ g,wx.heap.size = g ∧ Blk X g [.int .i64 nf,.int .i64 nk,.int .i64 ni] ∧ Kept [] wx X) ⟨_,rfl,Blk.new _ _ _ _ rfl,(Kept.refl _ _).alloc _⟩ ?_
         rintro X ⟨g,eg,Bg,hkX⟩
         rw [eg]
         have ⟨LG,CG,FG⟩:=Bg
         have mqy:=Lib.hid (mqx.out.kept hkX (by simp))
         have hkw : Kept [] wr X:=keptTrans hkx hkX
         have hbX:=hkX.below hbx hbx.size (by simp)
         clear r1 r2 r3 hl' eg hkX mqx
         by_cases hc3 : c = 3
         · have c3' : (c != 3) = false:=by simpa using hc3
           have hfin:=Lib.hid (show ∀ x,x < k + 1 → Sp.cnt ns j (gn ns x).f = 3 from fun x hx => by
             rcases Nat.lt_or_ge x k with h9 | h9
             · exact hall.out x h9
             · obtain rfl : x = k:=by omega
               rw [HC.out,hc3])
           clear hc3
           go_wp2_with (first
             | (at_lookup;refine wpList_look_int _ rfl _ _ 215 rfl 3 3 Tryz.lawInt Tryz.mapII Tryz.undInt (Tryz.zeroInt _) q j _ rfl mqy.out (.int .i64 nf) _ rfl HKY.out c HCQ.out ?_)
             | go_in)
           exact ⟨⟨k + 1,by omega,by go_num,hkw,hfin⟩,by simp [intOf];omega⟩
         · have c3' : (c != 3) = true:=by simpa using hc3
           have hfin:=Lib.hid (show ∃ x,x < j ∧ Sp.cnt ns j (gn ns x).f ≠ 3 from ⟨k,hlt,by rw [HC.out];exact hc3⟩)
           clear hc3
           go_wp2_with (first
             | (at_lookup;refine wpList_look_int _ rfl _ _ 215 rfl 3 3 Tryz.lawInt Tryz.mapII Tryz.undInt (Tryz.zeroInt _) q j _ rfl mqy.out (.int .i64 nf) _ rfl HKY.out c HCQ.out ?_)
             | go_in)
           go_ret2
           exact ⟨hbX,Or.inl ⟨hfin.out,rfl⟩⟩
       · obtain rfl : k = j:=by omega
         clear hlt
         have mpx:=Lib.hid (mp.out.kept hkx (by simp))
         go_wp2_with fail
         go_ret2
         exact ⟨hbx,Or.inr ⟨hall.out,p,hpw,rfl,mpx.out⟩⟩
end Go.Proofs.YtincpmdldpakkaaGreatDoor
namespace Go.Df
open Go.RowKit Go.Maps Go.ChangeMaps
theorem wpList_wanted {P : Program} {w : World} {ops : Array Oper} {rest : List Oper} {o : Oper} {a : Act} {Q : Exit → Act → World → Prop} (hw : Region.wanted o (yielded ops a.tmps) = true)
   (h : ∀ K : Act → World → Prop,(∀ a w,wpList P ops Q rest a w → K a w) → o.wp P a w K Q) : wpList P ops Q (o :: rest) a w :=
 wpList_step fun K hK => by simp only [hw,if_true];exact h K hK
theorem wpList_look_intg {P : Program} (w : World) {ops : Array Oper} {rest : List Oper} {o : Oper} {a : Act} {Q : Exit → Act → World → Prop}
   (hg : Region.wanted o (yielded ops a.tmps) = true) (m x : Operand) (t : TypeId) (hop : o.op = Op.lookup t m x false)
   (k e : TypeId) (K : Maps.Keyed P k) (ht : P.underlying t = some (.map k e)) (he : P.underlying e = some (.int .i64)) (hz : (zeroValue e).run P w = .ok (.int .i64 0) w) (b n : Nat) (f : Value → Lit)
   (hm : a.eval m = .map (some b)) (hown : MapV P k e (.int .i64 0) w b n f) (key : Value) (kl : Lit) (hx : a.eval x = key) (hkey : keyOf P k key = some kl) (c : Int) (hc : f key = .int .i64 c)
   (hK : wpList P ops Q rest (a.put o.dst (.int .i64 c)) w) : wpList P ops Q (o :: rest) a w:=by
 refine wpList_wanted hg fun K' hK' => ?_
 have hrun:=hown.look_int K ht he hz hkey hc
 unfold Oper.wp
 simp [execOp,hop,hm,hx,hrun,Result.andThen]
 exact hK' _ _ hK
theorem wpList_look_boolg {P : Program} (w : World) {ops : Array Oper} {rest : List Oper} {o : Oper} {a : Act} {Q : Exit → Act → World → Prop}
   (hg : Region.wanted o (yielded ops a.tmps) = true) (m x : Operand) (t : TypeId) (hop : o.op = Op.lookup t m x false)
   (k e : TypeId) (K : Maps.Keyed P k) (ht : P.underlying t = some (.map k e)) (he : P.underlying e = some .bool) (hz : (zeroValue e).run P w = .ok (.bool false) w) (b n : Nat) (f : Value → Lit)
   (hm : a.eval m = .map (some b)) (hown : MapV P k e (.bool false) w b n f) (key : Value) (kl : Lit) (hx : a.eval x = key) (hkey : keyOf P k key = some kl) (c : Bool) (hc : f key = .bool c)
   (hK : wpList P ops Q rest (a.put o.dst (.bool c)) w) : wpList P ops Q (o :: rest) a w:=by
 refine wpList_wanted hg fun K' hK' => ?_
 have hrun:=hown.look_bool K ht he hz hkey hc
 unfold Oper.wp
 simp [execOp,hop,hm,hx,hrun,Result.andThen]
 exact hK' _ _ hK
namespace Sp
def inB (x : Int) (n : Nat) : Bool:=decide (0 ≤ x) && decide (x < n)
theorem inB_true {x : Int} {n : Nat} (h : inB x n = true) : 0 ≤ x ∧ x < n:=by simpa [inB] using h
theorem inB_false {x : Int} {n : Nat} (h : inB x n = false) : x < 0 ∨ (n : Int) ≤ x:=by
 simp [inB] at h
 omega
def fieldErr (N : Nat) (ea eb ek ec : Int) : Int :=
 if ea < 0 ∨ (N : Int) ≤ ea ∨ eb < 0 ∨ (N : Int) ≤ eb then 4
 else if ek < 1 ∨ 5 < ek then 12
 else if ((ek = 1 ∨ ek = 5) ∧ ec ≠ -1) ∨ (ek ≠ 1 ∧ ek ≠ 5 ∧ (ec < 0 ∨ (N : Int) ≤ ec)) then 4 else 0
theorem ite_split (p1 p2 p3 : Prop) [Decidable p1] [Decidable p2] [Decidable p3] (r : Int) : (if p1 then 4 else if p2 then 12 else if p3 then 4 else r) =
   if (if p1 then (4 : Int) else if p2 then 12 else if p3 then 4 else 0) ≠ 0 then (if p1 then 4 else if p2 then 12 else if p3 then 4 else 0) else r:=by
 by_cases h1 : p1 <;> by_cases h2 : p2 <;> by_cases h3 : p3 <;> simp [h1,h2,h3]
theorem edge_field (ns : List Nd) (es : List Ed) (j : Nat) : edgeErr ns es j =
   if fieldErr ns.length (ge es j).a (ge es j).b (ge es j).k (ge es j).c ≠ 0 then fieldErr ns.length (ge es j).a (ge es j).b (ge es j).k (ge es j).c
   else if 0 < j ∧ lessE (ge es (j - 1)) (ge es j) = false then 13
   else if fitsB ns es (ge es j) = false then 20 else 0:=by
 unfold edgeErr fieldErr
 exact ite_split _ _ _ _
def matchN (ek ec ea : Int) (fr td cl : Nd) (cb : Bool) : Bool :=
 if ek = 1 then decide (fr.f = td.f) && (decide (fr.k = 1) || decide (fr.k = 2)) && decide (td.k ≠ 1)
 else if ek = 5 then decide (fr.f = td.f) && decide (fr.k = 2) && decide (td.k ≠ 1)
 else if ek = 2 then decide (fr.k = 2) && decide (ec = ea) && decide (td.k = 1)
 else decide (fr.k = if ek = 4 then 4 else 3) && decide (cl.k = 2) && cb && decide (td.f = cl.f) && decide (td.k ≠ 1)
theorem match_fits {ek ec ea : Int} {fr td cl : Nd} {cb : Bool} (h1 : 1 ≤ fr.k ∧ fr.k ≤ 4) (h2 : 1 ≤ ek ∧ ek ≤ 5) : matchN ek ec ea fr td cl cb = fitsN ek ec ea fr td cl cb:=by
 have h3 : ek = 1 ∨ ek = 2 ∨ ek = 3 ∨ ek = 4 ∨ ek = 5:=by omega
 have h4 : fr.k = 1 ∨ fr.k = 2 ∨ fr.k = 3 ∨ fr.k = 4:=by omega
 unfold matchN fitsN
 rcases h3 with rfl | rfl | rfl | rfl | rfl <;> rcases h4 with h | h | h | h <;> simp [h]
end Sp
end Go.Df
namespace Go.Proofs.YtincpmdldpakkaaGreatDoor
open Go.RowKit Go.Df
attribute [local go_sem ↓] Go.wp_at_zero Go.wp_at_succ
theorem is_any (b : Nat) (A1 A2 : Option Addr) (n1 c1 n2 c2 : Nat) (mn x : Int) (v : Bool) (hv : Sp.inB x n1 = v) (w : World) (hb : Blk w b [.slice A1 n1 c1,.slice A2 n2 c2,.int .i64 mn]) :
   Calls Tryz.prog 178 #[.int .i64 x,.pointer (some ⟨b,0,none⟩)] w fun e w' => e = .returned (.bool v) ∧ w' = w:=by
 have ⟨L,C,F⟩:=hb
 by_cases h1 : 0 ≤ x
 · by_cases h2 : x < (n1 : Int)
   · obtain rfl : v = true:=by rw [← hv];simp [Sp.inB,h1,h2]
     clear hv
     go_enter Tryz.func178,Tryz.ntmps178
     go_wp2_with fail
     go_ret
     exact ⟨rfl,rfl⟩
   · obtain rfl : v = false:=by rw [← hv];simp [Sp.inB,h2]
     clear hv
     go_enter Tryz.func178,Tryz.ntmps178
     go_wp2_with fail
     go_ret
     exact ⟨rfl,rfl⟩
 · obtain rfl : v = false:=by rw [← hv];simp [Sp.inB,h1]
   clear hv
   go_enter Tryz.func178,Tryz.ntmps178
   go_wp2_with fail
   go_ret
   exact ⟨rfl,rfl⟩
set_option maxRecDepth 100000 in
set_option maxHeartbeats 2000000 in
theorem check_any (A1 A2 : Option Addr) (n1 c1 n2 c2 : Nat) (mn ea eb ek ec : Int) (w : World) :
   Calls Tryz.prog 125 #[.agg #[.slice A1 n1 c1,.slice A2 n2 c2,.int .i64 mn],.agg #[.int .i64 ea,.int .i64 eb,.int .i64 ek,.int .i64 ec]] w fun e w' => e = .returned (.int .i64 (Sp.fieldErr n1 ea eb ek ec)) ∧ Below w.heap.size w w':=by
 go_enter Tryz.func125,Tryz.ntmps125
 go_upto_region 1 with fail
 refine wp_named (fun W => ∃ b0 b1,w.heap.size = b0 ∧ w.heap.size + 1 = b1 ∧ Blk W b0 [.slice A1 n1 c1,.slice A2 n2 c2,.int .i64 mn] ∧ Blk W b1 [.int .i64 ea,.int .i64 eb,.int .i64 ek,.int .i64 ec] ∧ Below w.heap.size w W) ⟨_,_,rfl,rfl,?_,?_,?_⟩ ?_
 · exact (Blk.new _ _ _ _ (by first | rfl | simp)).alloc _
 · exact kbn
 · go_grown
 rintro W ⟨b0,b1,e0,e1,B0,B1,hB⟩
 rw [e1,e0]
 have G0 : w.heap.size ≤ b0:=by omega
 have n01 : b0 ≠ b1:=by omega
 have G1 : w.heap.size ≤ b1:=by omega
 have n10 : b1 ≠ b0:=by omega
 clear e0 e1
 have ⟨L0,C0,F0⟩:=B0
 have ⟨L1,C1,F1⟩:=B1
 have arm : True:=trivial
 cases i1 : Sp.inB ea n1 with
 | false =>
   have g1:=Sp.inB_false i1
   go_wp2_with (first | (go_at_call 178;with_reducible refine (is_any _ _ _ _ _ _ _ _ ea false (by assumption) _ B0).mono ?_;rintro e w9 ⟨rfl,rfl⟩))
   go_ret
   exact ⟨ret_int (by unfold Sp.fieldErr;(repeat' split) <;> first | rfl | omega | (exfalso;omega)),hB⟩
 | true =>
 have g1:=Sp.inB_true i1
 cases i2 : Sp.inB eb n1 with
 | false =>
   have g2:=Sp.inB_false i2
   go_wp2_with (first | (go_at_call 178;with_reducible refine (is_any _ _ _ _ _ _ _ _ ea true (by assumption) _ B0).mono ?_;rintro e w9 ⟨rfl,rfl⟩) | (go_at_call 178;with_reducible refine (is_any _ _ _ _ _ _ _ _ eb false (by assumption) _ B0).mono ?_;rintro e w9 ⟨rfl,rfl⟩))
   go_ret
   exact ⟨ret_int (by unfold Sp.fieldErr;(repeat' split) <;> first | rfl | omega | (exfalso;omega)),hB⟩
 | true =>
 have g2:=Sp.inB_true i2
 by_cases k1 : ek = 1
 · have t1 : (ek == 1) = true:=by simp;omega
   by_cases c1 : ec = -1
   · have c1' : (ec != -1) = false:=by simpa using c1
     have HC:=Lib.hid c1
     have HK:=Lib.hid k1
     clear c1 k1
     go_wp2_with (first | (go_at_call 178;with_reducible refine (is_any _ _ _ _ _ _ _ _ ea true (by assumption) _ B0).mono ?_;rintro e w9 ⟨rfl,rfl⟩) | (go_at_call 178;with_reducible refine (is_any _ _ _ _ _ _ _ _ eb true (by assumption) _ B0).mono ?_;rintro e w9 ⟨rfl,rfl⟩))
     go_ret
     exact ⟨ret_int (by have:=HC.out;have:=HK.out;unfold Sp.fieldErr;(repeat' split) <;> first | rfl | omega | (exfalso;omega)),hB⟩
   · have c1' : (ec != -1) = true:=by simpa using c1
     have HK:=Lib.hid k1
     clear k1
     go_wp2_with (first | (go_at_call 178;with_reducible refine (is_any _ _ _ _ _ _ _ _ ea true (by assumption) _ B0).mono ?_;rintro e w9 ⟨rfl,rfl⟩) | (go_at_call 178;with_reducible refine (is_any _ _ _ _ _ _ _ _ eb true (by assumption) _ B0).mono ?_;rintro e w9 ⟨rfl,rfl⟩))
     go_ret
     exact ⟨ret_int (by have:=HK.out;unfold Sp.fieldErr;(repeat' split) <;> first | rfl | omega | (exfalso;omega)),hB⟩
 · have u1 : True:=trivial
   by_cases k5 : ek = 5
   · have t1 : (ek == 1) = false:=by simp;omega
     have t5 : (ek == 5) = true:=by simp;omega
     by_cases c1 : ec = -1
     · have c1' : (ec != -1) = false:=by simpa using c1
       have HC:=Lib.hid c1
       have HK:=Lib.hid k5
       clear c1 k5
       go_wp2_with (first | (go_at_call 178;with_reducible refine (is_any _ _ _ _ _ _ _ _ ea true (by assumption) _ B0).mono ?_;rintro e w9 ⟨rfl,rfl⟩) | (go_at_call 178;with_reducible refine (is_any _ _ _ _ _ _ _ _ eb true (by assumption) _ B0).mono ?_;rintro e w9 ⟨rfl,rfl⟩))
       go_ret
       exact ⟨ret_int (by have:=HC.out;have:=HK.out;unfold Sp.fieldErr;(repeat' split) <;> first | rfl | omega | (exfalso;omega)),hB⟩
     · have c1' : (ec != -1) = true:=by simpa using c1
       have HK:=Lib.hid k5
       clear k5
       go_wp2_with (first | (go_at_call 178;with_reducible refine (is_any _ _ _ _ _ _ _ _ ea true (by assumption) _ B0).mono ?_;rintro e w9 ⟨rfl,rfl⟩) | (go_at_call 178;with_reducible refine (is_any _ _ _ _ _ _ _ _ eb true (by assumption) _ B0).mono ?_;rintro e w9 ⟨rfl,rfl⟩))
       go_ret
       exact ⟨ret_int (by have:=HK.out;unfold Sp.fieldErr;(repeat' split) <;> first | rfl | omega | (exfalso;omega)),hB⟩
   · have u5 : True:=trivial
     by_cases k2 : ek = 2
     · have t1 : (ek == 1) = false:=by simp;omega
       have t5 : (ek == 5) = false:=by simp;omega
       have t2 : (ek == 2) = true:=by simp;omega
       cases i3 : Sp.inB ec n1 with
       | true =>
         have g3:=Sp.inB_true i3
         have HK:=Lib.hid k2
         clear k2
         go_wp2_with (first | (go_at_call 178;with_reducible refine (is_any _ _ _ _ _ _ _ _ ea true (by assumption) _ B0).mono ?_;rintro e w9 ⟨rfl,rfl⟩) | (go_at_call 178;with_reducible refine (is_any _ _ _ _ _ _ _ _ eb true (by assumption) _ B0).mono ?_;rintro e w9 ⟨rfl,rfl⟩) | (go_at_call 178;with_reducible refine (is_any _ _ _ _ _ _ _ _ ec true (by assumption) _ B0).mono ?_;rintro e w9 ⟨rfl,rfl⟩))
         go_ret
         exact ⟨ret_int (by have:=HK.out;unfold Sp.fieldErr;(repeat' split) <;> first | rfl | omega | (exfalso;omega)),hB⟩
       | false =>
         have g3:=Sp.inB_false i3
         have HK:=Lib.hid k2
         clear k2
         go_wp2_with (first | (go_at_call 178;with_reducible refine (is_any _ _ _ _ _ _ _ _ ea true (by assumption) _ B0).mono ?_;rintro e w9 ⟨rfl,rfl⟩) | (go_at_call 178;with_reducible refine (is_any _ _ _ _ _ _ _ _ eb true (by assumption) _ B0).mono ?_;rintro e w9 ⟨rfl,rfl⟩) | (go_at_call 178;with_reducible refine (is_any _ _ _ _ _ _ _ _ ec false (by assumption) _ B0).mono ?_;rintro e w9 ⟨rfl,rfl⟩))
         go_ret
         exact ⟨ret_int (by have:=HK.out;unfold Sp.fieldErr;(repeat' split) <;> first | rfl | omega | (exfalso;omega)),hB⟩
     · have u2 : True:=trivial
       by_cases k3 : ek = 3
       · have t1 : (ek == 1) = false:=by simp;omega
         have t5 : (ek == 5) = false:=by simp;omega
         have t2 : (ek == 2) = false:=by simp;omega
         have t3 : (ek == 3) = true:=by simp;omega
         cases i3 : Sp.inB ec n1 with
         | true =>
           have g3:=Sp.inB_true i3
           have HK:=Lib.hid k3
           clear k3
           go_wp2_with (first | (go_at_call 178;with_reducible refine (is_any _ _ _ _ _ _ _ _ ea true (by assumption) _ B0).mono ?_;rintro e w9 ⟨rfl,rfl⟩) | (go_at_call 178;with_reducible refine (is_any _ _ _ _ _ _ _ _ eb true (by assumption) _ B0).mono ?_;rintro e w9 ⟨rfl,rfl⟩) | (go_at_call 178;with_reducible refine (is_any _ _ _ _ _ _ _ _ ec true (by assumption) _ B0).mono ?_;rintro e w9 ⟨rfl,rfl⟩))
           go_ret
           exact ⟨ret_int (by have:=HK.out;unfold Sp.fieldErr;(repeat' split) <;> first | rfl | omega | (exfalso;omega)),hB⟩
         | false =>
           have g3:=Sp.inB_false i3
           have HK:=Lib.hid k3
           clear k3
           go_wp2_with (first | (go_at_call 178;with_reducible refine (is_any _ _ _ _ _ _ _ _ ea true (by assumption) _ B0).mono ?_;rintro e w9 ⟨rfl,rfl⟩) | (go_at_call 178;with_reducible refine (is_any _ _ _ _ _ _ _ _ eb true (by assumption) _ B0).mono ?_;rintro e w9 ⟨rfl,rfl⟩) | (go_at_call 178;with_reducible refine (is_any _ _ _ _ _ _ _ _ ec false (by assumption) _ B0).mono ?_;rintro e w9 ⟨rfl,rfl⟩))
           go_ret
           exact ⟨ret_int (by have:=HK.out;unfold Sp.fieldErr;(repeat' split) <;> first | rfl | omega | (exfalso;omega)),hB⟩
       · have u3 : True:=trivial
         by_cases k4 : ek = 4
         · have t1 : (ek == 1) = false:=by simp;omega
           have t5 : (ek == 5) = false:=by simp;omega
           have t2 : (ek == 2) = false:=by simp;omega
           have t3 : (ek == 3) = false:=by simp;omega
           have t4 : (ek == 4) = true:=by simp;omega
           cases i3 : Sp.inB ec n1 with
           | true =>
             have g3:=Sp.inB_true i3
             have HK:=Lib.hid k4
             clear k4
             go_wp2_with (first | (go_at_call 178;with_reducible refine (is_any _ _ _ _ _ _ _ _ ea true (by assumption) _ B0).mono ?_;rintro e w9 ⟨rfl,rfl⟩) | (go_at_call 178;with_reducible refine (is_any _ _ _ _ _ _ _ _ eb true (by assumption) _ B0).mono ?_;rintro e w9 ⟨rfl,rfl⟩) | (go_at_call 178;with_reducible refine (is_any _ _ _ _ _ _ _ _ ec true (by assumption) _ B0).mono ?_;rintro e w9 ⟨rfl,rfl⟩))
             go_ret
             exact ⟨ret_int (by have:=HK.out;unfold Sp.fieldErr;(repeat' split) <;> first | rfl | omega | (exfalso;omega)),hB⟩
           | false =>
             have g3:=Sp.inB_false i3
             have HK:=Lib.hid k4
             clear k4
             go_wp2_with (first | (go_at_call 178;with_reducible refine (is_any _ _ _ _ _ _ _ _ ea true (by assumption) _ B0).mono ?_;rintro e w9 ⟨rfl,rfl⟩) | (go_at_call 178;with_reducible refine (is_any _ _ _ _ _ _ _ _ eb true (by assumption) _ B0).mono ?_;rintro e w9 ⟨rfl,rfl⟩) | (go_at_call 178;with_reducible refine (is_any _ _ _ _ _ _ _ _ ec false (by assumption) _ B0).mono ?_;rintro e w9 ⟨rfl,rfl⟩))
             go_ret
             exact ⟨ret_int (by have:=HK.out;unfold Sp.fieldErr;(repeat' split) <;> first | rfl | omega | (exfalso;omega)),hB⟩
         · have u4 : True:=trivial
           have t1 : (ek == 1) = false:=by simp;omega
           have t5 : (ek == 5) = false:=by simp;omega
           have t2 : (ek == 2) = false:=by simp;omega
           have t3 : (ek == 3) = false:=by simp;omega
           have t4 : (ek == 4) = false:=by simp;omega
           go_wp2_with (first | (go_at_call 178;with_reducible refine (is_any _ _ _ _ _ _ _ _ ea true (by assumption) _ B0).mono ?_;rintro e w9 ⟨rfl,rfl⟩) | (go_at_call 178;with_reducible refine (is_any _ _ _ _ _ _ _ _ eb true (by assumption) _ B0).mono ?_;rintro e w9 ⟨rfl,rfl⟩))
           go_ret
           exact ⟨ret_int (by unfold Sp.fieldErr;(repeat' split) <;> first | rfl | omega | (exfalso;omega)),hB⟩
set_option maxRecDepth 100000 in
set_option maxHeartbeats 4000000 in
theorem matches_any (A1 A2 : Option Addr) (n1 c1 n2 c2 : Nat) (mn : Int) (p q m1 m2 : Nat) (ea eb : Nat) (ek ec : Int) (ns : List Sp.Nd) (st : Int → Int) (en : Int → Int → Bool) (w : World) (hn : Nds w A1 n1 ns) (hs : n1 ≤ 1000000)
   (ha : ea < n1) (hb : eb < n1) (hc : ek ≠ 1 → ek ≠ 5 → ek ≠ 2 → 0 ≤ ec ∧ ec < n1) (hw : ∀ j,j < n1 → (Lit.int .i64 (gn ns j).f).wf = true) (hst : ∀ x,0 ≤ st x ∧ st x ≤ 1000000)
   (Mp : MapV Tryz.prog 3 3 (.int .i64 0) w p m1 (mv st)) (Mq : MapV Tryz.prog 220 4 (.bool false) w q m2 (mb en)) :
   Calls Tryz.prog 127 #[.agg #[.slice A1 n1 c1,.slice A2 n2 c2,.int .i64 mn],.map (some p),.map (some q),.agg #[.int .i64 ea,.int .i64 eb,.int .i64 ek,.int .i64 ec]] w fun e w' =>
     e = .returned (.bool (Sp.matchN ek ec ea (gn ns ea) (gn ns eb) (gn ns ec.toNat) (en ec (st (gn ns ea).f)))) ∧ Below w.heap.size w w':=by
 have HWF:=Lib.hid hw
 have HST:=Lib.hid hst
 have MP:=Lib.hid Mp
 have MQ:=Lib.hid Mq
 have HC:=Lib.hid hc
 obtain ⟨b,o,rfl,hl,hcl⟩:=hn.2 (by omega)
 obtain ⟨p1,p2,p3⟩:=hcl ea ha
 obtain ⟨q1,q2,q3⟩:=hcl eb hb
 have HCl:=Lib.hid hcl
 clear hn hc hcl hw hst Mp Mq
 go_enter Tryz.func127,Tryz.ntmps127
 go_upto_region 1 with fail
 refine wp_named (fun W => ∃ b0 b1,w.heap.size = b0 ∧ w.heap.size + 1 = b1 ∧ Blk W b0 [.slice (some ⟨b,o,none⟩) n1 c1,.slice A2 n2 c2,.int .i64 mn] ∧ Blk W b1 [.int .i64 ea,.int .i64 eb,.int .i64 ek,.int .i64 ec] ∧ Below w.heap.size w W) ⟨_,_,rfl,rfl,?_,?_,?_⟩ ?_
 · exact (Blk.new _ _ _ _ (by first | rfl | simp)).alloc _
 · exact kbn
 · go_grown
 rintro W ⟨b0,b1,e0,e1,B0,B1,hB⟩
 rw [e1,e0]
 have G0 : w.heap.size ≤ b0:=by omega
 have n01 : b0 ≠ b1:=by omega
 have G1 : w.heap.size ≤ b1:=by omega
 have n10 : b1 ≠ b0:=by omega
 clear e0 e1
 have ⟨L0,C0,F0⟩:=B0
 have ⟨L1,C1,F1⟩:=B1
 have hlW : b < W.heap.size:=Nat.lt_of_lt_of_le hl hB.size
 obtain ⟨f1,k1,i1,e1⟩ : ∃ f k i,gn ns ea = ⟨f,k,i⟩:=⟨_,_,_,rfl⟩
 obtain ⟨f2,k2,i2,e2⟩ : ∃ f k i,gn ns eb = ⟨f,k,i⟩:=⟨_,_,_,rfl⟩
 rw [e1] at p1 p2 p3
 rw [e2] at q1 q2 q3
 have r1 : W.cell? ⟨b,o + ea * 3,none⟩ = some (.int .i64 f1):=(hB.cell (p:=⟨b,_,none⟩) hl).trans p1
 have r2 : W.cell? ⟨b,o + ea * 3 + 1,none⟩ = some (.int .i64 k1):=(hB.cell (p:=⟨b,_,none⟩) hl).trans p2
 have r3 : W.cell? ⟨b,o + ea * 3 + 2,none⟩ = some (.int .i64 i1):=(hB.cell (p:=⟨b,_,none⟩) hl).trans p3
 have r4 : W.cell? ⟨b,o + eb * 3,none⟩ = some (.int .i64 f2):=(hB.cell (p:=⟨b,_,none⟩) hl).trans q1
 have r5 : W.cell? ⟨b,o + eb * 3 + 1,none⟩ = some (.int .i64 k2):=(hB.cell (p:=⟨b,_,none⟩) hl).trans q2
 have r6 : W.cell? ⟨b,o + eb * 3 + 2,none⟩ = some (.int .i64 i2):=(hB.cell (p:=⟨b,_,none⟩) hl).trans q3
 have E1:=Lib.hid e1
 have E2:=Lib.hid e2
 have x1 : (0 : Int) ≤ (ea : Int):=by omega
 have x2 : (ea : Int) < (n1 : Int):=by omega
 have x3 : (0 : Int) ≤ (eb : Int):=by omega
 have x4 : (eb : Int) < (n1 : Int):=by omega
 clear p1 p2 p3 q1 q2 q3 e1 e2
 go_upto_region 1 with fail
 go_cut [9,10] (fun s t wx => ∃ g5 g6 : Nat,s = .pointer (some ⟨g5,0,none⟩) ∧ t = .pointer (some ⟨g6,0,none⟩) ∧ Blk wx g5 [.int .i64 f1,.int .i64 k1,.int .i64 i1] ∧ Blk wx g6 [.int .i64 f2,.int .i64 k2,.int .i64 i2] ∧ Kept [] W wx)
 case first =>
   go_region_held3 (fun w' => SX0 W w') (exact kp0) (fail)
   all_goals
     go_wp2_with fail
     go_meet
     refine ⟨_,_,rfl,rfl,?_,?_,?_⟩
     · (exact kpb)
     · (exact kpb)
     · (exact kpt0)
 case rest =>
   obtain ⟨g5,g6,rfl,rfl,B5,B6,hkc⟩:=hcut
   have BC0:=hkc.blk (by simp) B0
   have BC1:=hkc.blk (by simp) B1
   have ⟨L0',C0',F0'⟩:=BC0
   have ⟨L1',C1',F1'⟩:=BC1
   have ⟨L5,C5,F5⟩:=B5
   have ⟨L6,C6,F6⟩:=B6
   have hBc:=hkc.below hB hB.size (by simp)
   have HF : Hid (Sp.matchN ek ec ea (gn ns ea) (gn ns eb) (gn ns ec.toNat) (en ec (st (gn ns ea).f)) = Sp.matchN ek ec ea ⟨f1,k1,i1⟩ ⟨f2,k2,i2⟩ (gn ns ec.toNat) (en ec (st f1))):=by
     show Sp.matchN _ _ _ _ _ _ _ = _
     rw [E1.out,E2.out]
   clear C0 F0 C1 F1 r1 r2 r3 r4 r5 r6
   by_cases h1 : ek = 1
   · have t1 : (ek == 1) = true:=by simpa using h1
     have HH:=Lib.hid h1
     clear h1
     go_wp2_with fail
     all_goals
       go_ret
       refine ⟨ret_bool ?_,hBc⟩
       rw [HF.out,HH.out]
       clear C0' C1' C5 C6 F0' F1' F5 F6
       first | (simp_all [Sp.matchN];done) | (simp_all [Sp.matchN];rw [Bool.eq_iff_iff];simp_all;try omega)
   · have t1 : (ek == 1) = false:=by simpa using h1
     by_cases h5 : ek = 5
     · have t5 : (ek == 5) = true:=by simpa using h5
       have HH:=Lib.hid h5
       clear h5 h1
       go_wp2_with fail
       all_goals
         go_ret
         refine ⟨ret_bool ?_,hBc⟩
         rw [HF.out,HH.out]
         clear C0' C1' C5 C6 F0' F1' F5 F6
         first | (simp_all [Sp.matchN];done) | (simp_all [Sp.matchN];rw [Bool.eq_iff_iff];simp_all;try omega)
     · have t5 : (ek == 5) = false:=by simpa using h5
       by_cases h2 : ek = 2
       · have t2 : (ek == 2) = true:=by simpa using h2
         have HH:=Lib.hid h2
         clear h2 h1 h5
         go_wp2_with fail
         all_goals
           go_ret
           refine ⟨ret_bool ?_,hBc⟩
           rw [HF.out,HH.out]
           clear C0' C1' C5 C6 F0' F1' F5 F6
           first | (simp_all [Sp.matchN];done) | (simp_all [Sp.matchN];rw [Bool.eq_iff_iff];simp_all;try omega)
       · have t2 : (ek == 2) = false:=by simpa using h2
         obtain ⟨c0,cn⟩:=HC.out h1 h5 h2
         obtain ⟨x,rfl⟩:=Int.eq_ofNat_of_zero_le c0
         have hx : x < n1:=by omega
         obtain ⟨s1,s2,s3⟩:=HCl.out x hx
         obtain ⟨f3,k3,i3,e3⟩ : ∃ f k i,gn ns x = ⟨f,k,i⟩:=⟨_,_,_,rfl⟩
         rw [e3] at s1 s2 s3
         have u1 : wc.cell? ⟨b,o + x * 3,none⟩ = some (.int .i64 f3):=(hBc.cell (p:=⟨b,_,none⟩) hl).trans s1
         have u2 : wc.cell? ⟨b,o + x * 3 + 1,none⟩ = some (.int .i64 k3):=(hBc.cell (p:=⟨b,_,none⟩) hl).trans s2
         have u3 : wc.cell? ⟨b,o + x * 3 + 2,none⟩ = some (.int .i64 i3):=(hBc.cell (p:=⟨b,_,none⟩) hl).trans s3
         have E3:=Lib.hid e3
         have hlc : b < wc.heap.size:=Nat.lt_of_lt_of_le hl hBc.size
         obtain ⟨s,hse⟩ : ∃ s,st f1 = s:=⟨_,rfl⟩
         obtain ⟨cb,hcb⟩ : ∃ cb,en x s = cb:=⟨_,rfl⟩
         have hf1 : (Lit.int .i64 f1).wf = true:=by have:=HWF.out ea ha;rw [E1.out] at this;exact this
         have HK1:=Lib.hid (Tryz.keyInt f1 hf1)
         have hsb:=HST.out f1
         rw [hse] at hsb
         obtain ⟨kl,hkl⟩:=Tryz.keyEdge (x : Int) s (WalkArith.wf_i64 (by omega)) (WalkArith.wf_i64 (by omega))
         have HK2:=Lib.hid hkl
         have HV1:=Lib.hid (show mv st (.int .i64 f1) = .int .i64 s from congrArg _ hse)
         have HV2:=Lib.hid (show mb en (.agg #[.int .i64 (x : Int),.int .i64 s]) = .bool cb from congrArg Lit.bool hcb)
         have HF2 : Hid (Sp.matchN ek x ea (gn ns ea) (gn ns eb) (gn ns x) (en x (st (gn ns ea).f)) = (decide (k1 = if ek = 4 then 4 else 3) && decide (k3 = 2) && cb && decide (f2 = f3) && decide (k2 ≠ 1))):=by
           show Sp.matchN _ _ _ _ _ _ _ = _
           rw [E1.out,E2.out,E3.out]
           dsimp only
           rw [hse,hcb]
           unfold Sp.matchN
           rw [if_neg h1,if_neg h5,if_neg h2]
         clear s1 s2 s3 e3 hse hcb hkl hf1 hsb HF
         by_cases h4 : ek = 4
         all_goals
           first
             | (have t4 : (ek == 4) = true:=by simpa using h4)
             | (have t4 : (ek == 4) = false:=by simpa using h4)
           obtain ⟨lv,hlv⟩ : ∃ lv : Int,lv = (if ek = 4 then 4 else 3):=⟨_,rfl⟩
           obtain ⟨v1,hv1⟩ : ∃ v,(k1 == lv) = v:=⟨_,rfl⟩
           obtain ⟨v2,hv2⟩ : ∃ v,(k3 == 2) = v:=⟨_,rfl⟩
           obtain ⟨v4,hv4⟩ : ∃ v,(f2 == f3) = v:=⟨_,rfl⟩
           obtain ⟨v5,hv5⟩ : ∃ v,(k2 != 1) = v:=⟨_,rfl⟩
           have HF3 : Hid (Sp.matchN ek x ea (gn ns ea) (gn ns eb) (gn ns x) (en x (st (gn ns ea).f)) = (v1 && v2 && cb && v4 && v5)):=by
             show Sp.matchN _ _ _ _ _ _ _ = _
             rw [HF2.out,← hlv,← hv1,← hv2,← hv4,← hv5]
             rw [Bool.eq_iff_iff]
             simp
           clear HF2
           first
             | (have hl4 : lv = 4:=by rw [hlv,if_pos h4])
             | (have hl4 : lv = 3:=by rw [hlv,if_neg h4])
           subst hl4
           clear h4 h1 h2 h5 hlv
           go_upto_region 13 with fail
           refine wp_named (fun V => ∃ g,wc.heap.size = g ∧ Blk V g [.int .i64 f3,.int .i64 k3,.int .i64 i3] ∧ Kept [] wc V) ⟨_,rfl,Blk.new _ _ _ _ rfl,(Kept.refl _ _).alloc _⟩ ?_
           rintro V ⟨g,eg,Bg,hkV⟩
           rw [eg]
           have hkw : Kept [] W V:=keptTrans hkc hkV
           have hBV:=hkw.below hB hB.size (by simp)
           have ⟨M0,D0,G0'⟩:=hkV.blk (by simp) BC0
           have ⟨M1,D1,G1'⟩:=hkV.blk (by simp) BC1
           have ⟨M5,D5,G5'⟩:=hkV.blk (by simp) B5
           have ⟨M6,D6,G6'⟩:=hkV.blk (by simp) B6
           have ⟨Mg,Dg,Gg⟩:=Bg
           have kw0 : Kept [] w V:=(Kept.refl _ _).call hBV
           have MPV:=Lib.hid (MP.out.kept kw0 (by simp))
           have MQV:=Lib.hid (MQ.out.kept kw0 (by simp))
           clear C0' C1' C5 C6 F0' F1' F5 F6 u1 u2 u3 eg
           cases v1 with
           | false =>
             go_wp2_with fail
             go_ret
             exact ⟨ret_bool (HF3.out.trans (by simp)).symm,hBV⟩
           | true =>
           cases v2 with
           | false =>
             go_wp2_with fail
             go_ret
             exact ⟨ret_bool (HF3.out.trans (by simp)).symm,hBV⟩
           | true =>
           cases cb with
           | false =>
             go_wp2_with (first | (at_lookup;refine wpList_look_intg _ rfl _ _ 215 rfl 3 3 Tryz.lawInt Tryz.mapII Tryz.undInt (Tryz.zeroInt _) p m1 _ rfl MPV.out (.int .i64 f1) _ rfl HK1.out s HV1.out ?_) | (at_lookup;refine wpList_look_boolg _ rfl _ _ 218 rfl 220 4 Tryz.lawEdge Tryz.mapEB Tryz.undBool (Tryz.zeroBool _) q m2 _ rfl MQV.out (.agg #[.int .i64 (x : Int),.int .i64 s]) _ rfl HK2.out false HV2.out ?_) | go_in)
             go_ret
             exact ⟨ret_bool (HF3.out.trans (by simp)).symm,hBV⟩
           | true =>
           cases v4 with
           | false =>
             go_wp2_with (first | (at_lookup;refine wpList_look_intg _ rfl _ _ 215 rfl 3 3 Tryz.lawInt Tryz.mapII Tryz.undInt (Tryz.zeroInt _) p m1 _ rfl MPV.out (.int .i64 f1) _ rfl HK1.out s HV1.out ?_) | (at_lookup;refine wpList_look_boolg _ rfl _ _ 218 rfl 220 4 Tryz.lawEdge Tryz.mapEB Tryz.undBool (Tryz.zeroBool _) q m2 _ rfl MQV.out (.agg #[.int .i64 (x : Int),.int .i64 s]) _ rfl HK2.out true HV2.out ?_) | go_in)
             go_ret
             exact ⟨ret_bool (HF3.out.trans (by simp)).symm,hBV⟩
           | true =>
           cases v5 with
           | false =>
             go_wp2_with (first | (at_lookup;refine wpList_look_intg _ rfl _ _ 215 rfl 3 3 Tryz.lawInt Tryz.mapII Tryz.undInt (Tryz.zeroInt _) p m1 _ rfl MPV.out (.int .i64 f1) _ rfl HK1.out s HV1.out ?_) | (at_lookup;refine wpList_look_boolg _ rfl _ _ 218 rfl 220 4 Tryz.lawEdge Tryz.mapEB Tryz.undBool (Tryz.zeroBool _) q m2 _ rfl MQV.out (.agg #[.int .i64 (x : Int),.int .i64 s]) _ rfl HK2.out true HV2.out ?_) | go_in)
             go_ret
             exact ⟨ret_bool (HF3.out.trans (by simp)).symm,hBV⟩
           | true =>
             go_wp2_with (first | (at_lookup;refine wpList_look_intg _ rfl _ _ 215 rfl 3 3 Tryz.lawInt Tryz.mapII Tryz.undInt (Tryz.zeroInt _) p m1 _ rfl MPV.out (.int .i64 f1) _ rfl HK1.out s HV1.out ?_) | (at_lookup;refine wpList_look_boolg _ rfl _ _ 218 rfl 220 4 Tryz.lawEdge Tryz.mapEB Tryz.undBool (Tryz.zeroBool _) q m2 _ rfl MQV.out (.agg #[.int .i64 (x : Int),.int .i64 s]) _ rfl HK2.out true HV2.out ?_) | go_in)
             go_ret
             exact ⟨ret_bool (HF3.out.trans (by simp)).symm,hBV⟩
end Go.Proofs.YtincpmdldpakkaaGreatDoor
