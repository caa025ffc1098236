/- Texts: Uh Bi Bh Qp. -/
import Derived.Test.YtincpmdldpakkaaGreatDoorMt19
import Derived.Test.YtincpmdldpakkaaGreatDoorMt14
import Derived.Test.YtincpmdldpakkaaGreatDoorMt07
import Derived.Test.YtincpmdldpakkaaGreatDoorMt09
import Derived.Test.YtincpmdldpakkaaGreatDoorMt05
import Derived.Test.YtincpmdldpakkaaGreatDoorMt06
import Derived.Maps.OwnOps
import Derived.WalkSpells
import Derived.Test.YtincpmdldpakkaaGreatDoorMt03
namespace Go.Df
open Go.RowKit
namespace Iv
open Sp
open Go.Proofs.YtincpmdldpakkaaGreatDoor (metS prS afterS bot0 runJ)
abbrev runP (p : Vb) (path : List Int) : Nat → Go.Proofs.YtincpmdldpakkaaGreatDoor.Xf.V:=runJ rmV raV p.es p.fl p.sd p.mn path path.length
def upV (p : Vb) (ls : Nat → List Int) : Nat → Nat → Nat → Go.Proofs.YtincpmdldpakkaaGreatDoor.Xf.V
 | 0,_,_ => ⟨0,0⟩
 | i + 1,n,d => if (runS p.es p.mn [] (ls i)).2.1 = (n : Int) then rmV (upV p ls i n d) (runP p (ls i) d) else upV p ls i n d
theorem run_rng {es : List Ed} : ∀ (path : List Int) {a : Int} {cs : List Int},(runS es a cs path).1 = 0 → ∀ j,j < path.length → 0 ≤ gi path j ∧ gi path j < es.length
 | [],_,_,_,j,hj => absurd hj (by simp)
 | k :: r,a,cs,h,j,hj => by
   rw [runS] at h
   split at h
   · rename_i h0;exact absurd h h0
   · rename_i h0
     have h1 : (stepS es a cs k).1 = 0:=Decidable.byContradiction h0
     have h2 : 0 ≤ k ∧ k < es.length:=by
       unfold stepS at h1
       split at h1
       · cases h1
       · omega
     cases j with
     | zero => simpa [gi] using h2
     | succ j =>
       have h3:=run_rng r h j (by simpa using hj)
       simpa [gi] using h3
theorem lu_is {p : Vb} (ho : VOk p) (hf : VFit p) {path : List Int} (h : (runS p.es p.mn [] path).1 = 0) (d : Nat) : ∃ u : U,u.1 = runP p path d ∧ Glb (Lt p path d) u:=by
 obtain ⟨L,e1,e2⟩:=along_glb ho hf path.length path rfl (fun j hj => (run_rng path h j hj).1)
 exact ⟨L d,e1 d,e2 d⟩
open Classical in
noncomputable def Lu (p : Vb) (path : List Int) (d : Nat) : U:=if h : ∃ u : U,u.1 = runP p path d ∧ Glb (Lt p path d) u then h.choose else topV
theorem lu_val {p : Vb} (ho : VOk p) (hf : VFit p) {path : List Int} (h : (runS p.es p.mn [] path).1 = 0) (d : Nat) : (Lu p path d).1 = runP p path d ∧ Glb (Lt p path d) (Lu p path d):=by
 have h9:=lu_is ho hf h d
 have e : Lu p path d = h9.choose:=by unfold Lu;rw [dif_pos h9]
 rw [e]
 exact h9.choose_spec
theorem up_glb {p : Vb} (ho : VOk p) (hf : VFit p) (ls : Nat → List Int) : ∀ i,(∀ j,j < i → (runS p.es p.mn [] (ls j)).1 = 0) →
   ∃ M : Nat → Nat → U,(∀ n d,(M n d).1 = upV p ls i n d) ∧ ∀ (n d : Nat),Glb (fun u => ∃ j,j < i ∧ (runS p.es p.mn [] (ls j)).2.1 = (n : Int) ∧ u = Lu p (ls j) d) (M n d)
 | 0,_ => ⟨fun _ _ => topV,fun _ _ => rfl,fun n d => Glb.none fun u ⟨j,hj,_⟩ => absurd hj (Nat.not_lt_zero j)⟩
 | i + 1,h => by
   obtain ⟨M,e1,e2⟩:=up_glb ho hf ls i (fun j hj => h j (by omega))
   refine ⟨fun n d => if (runS p.es p.mn [] (ls i)).2.1 = (n : Int) then meetV (M n d) (Lu p (ls i) d) else M n d,fun n d => ?_,fun n d => ?_⟩
   · show (if (runS p.es p.mn [] (ls i)).2.1 = (n : Int) then meetV (M n d) (Lu p (ls i) d) else M n d).1 = _
     rw [upV]
     by_cases hc : (runS p.es p.mn [] (ls i)).2.1 = (n : Int)
     · rw [if_pos hc,if_pos hc,← rmeet_U,e1,(lu_val ho hf (h i (by omega)) d).1]
     · rw [if_neg hc,if_neg hc];exact e1 n d
   · dsimp only
     split
     · rename_i hc
       refine (e2 n d).add fun x => ⟨fun ⟨y,hy,a,b⟩ => ?_,fun h9 => ?_⟩
       · by_cases e : y = i
         · subst e;exact .inr b
         · exact .inl ⟨y,by omega,a,b⟩
       · rcases h9 with ⟨y,hy,a,b⟩ | h9
         · exact ⟨y,by omega,a,b⟩
         · exact ⟨i,by omega,hc,h9⟩
     · rename_i hc
       refine (e2 n d).iff fun x => ⟨fun ⟨y,hy,a,b⟩ => ?_,fun ⟨y,hy,a,b⟩ => ⟨y,by omega,a,b⟩⟩
       by_cases e : y = i
       · subst e;exact absurd a hc
       · exact ⟨y,by omega,a,b⟩
theorem sol_lu {p : Vb} (ho : VOk p) (hf : VFit p) {S : Nat → Nat → U} (hS : IsSol p S) :
   (∀ path n st d,runS p.es p.mn [] path = (0,n,st) → d < p.F.toNat → leV (S n.toNat d) (Lu p path d)) ∧ ∀ n d,n < p.ns.length → d < p.F.toNat → Glb (fun u => ∃ path st,runS p.es p.mn [] path = (0,(n : Int),st) ∧ u = Lu p path d) (S n d) :=
 sol_paths ho hS (Lu p) (fun path n st d h _ => (lu_val ho hf (path:=path) (by rw [h]) d).2)
theorem meet_all {p : Vb} (ho : VOk p) (hf : VFit p) {S : Nat → Nat → U} (hS : IsSol p S) (l : List (List Int)) (h1 : ∀ path ∈ l,(runS p.es p.mn [] path).1 = 0) (h2 : ∀ path,(runS p.es p.mn [] path).1 = 0 → path ∈ l) {n d : Nat} (hn : n < p.ns.length) (hd : d < p.F.toNat) :
   upV p (fun i => l.getD i []) l.length n d = (S n d).1:=by
 have hg : ∀ {j : Nat} (hj : j < l.length),l.getD j [] = l[j]:=fun hj => by simp [hj]
 obtain ⟨M,e1,e2⟩:=up_glb ho hf (fun i => l.getD i []) l.length (fun j hj => by
   show (runS p.es p.mn [] (l.getD j [])).1 = 0
   rw [hg hj]
   exact h1 _ (List.getElem_mem hj))
 rw [← e1 n d]
 congr 1
 refine (e2 n d).eq (((sol_lu ho hf hS).2 n d hn hd).iff fun x => ⟨fun ⟨j,hj,a,b⟩ => ?_,fun ⟨path,st,a,b⟩ => ?_⟩)
 · have h9:=h1 _ (List.getElem_mem hj)
   rw [hg hj] at a b
   exact ⟨l[j],(runS p.es p.mn [] l[j]).2.2,by rw [← h9,← a],b⟩
 · obtain ⟨j,hj,rfl⟩:=List.getElem_of_mem (h2 path (by rw [a]))
   refine ⟨j,hj,?_,?_⟩
   · rw [hg hj,a]
   · rw [hg hj];exact b
theorem leV_rbelow {v w : U} (h : leV v w) : Go.Proofs.YtincpmdldpakkaaGreatDoor.Xf.rbelow v.1 w.1 = true:=by
 have h1 : Go.Proofs.YtincpmdldpakkaaGreatDoor.Xf.meetV w.1 v.1 = v.1:=congrArg Subtype.val h
 have h2:=w.2.1
 unfold Go.Proofs.YtincpmdldpakkaaGreatDoor.Xf.meetV at h1
 unfold Go.Proofs.YtincpmdldpakkaaGreatDoor.Xf.rbelow
 rw [decide_eq_true_iff]
 split at h1
 · exact .inl h1.symm
 · split at h1
   · rename_i h3;exact .inr (.inr h3)
   · exact .inr (.inl (by rw [← h1]))
theorem meet_below {p : Vb} (ho : VOk p) (hf : VFit p) {S : Nat → Nat → U} (hS : IsSol p S) {path : List Int} {n : Int} {st : List Int} {d : Nat} (h : runS p.es p.mn [] path = (0,n,st)) (hd : d < p.F.toNat) :
   Go.Proofs.YtincpmdldpakkaaGreatDoor.Xf.rbelow (S n.toNat d).1 (runP p path d) = true:=by
 have h9:=leV_rbelow ((sol_lu ho hf hS).1 path n st d h hd)
 rw [(lu_val ho hf (path:=path) (by rw [h]) d).1] at h9
 exact h9
end Iv
end Go.Df
namespace Go.Df
open Go.RowKit Go.Maps
def PutT (P : Program) (k tM : TypeId) (z : Value) (w : World) (r N : Nat) (m : Nat → Option Nat) (c : Nat → Nat) (v : Nat → Value → Value) (n : Nat) (key x : Value) (e : Ending) (w' : World) : Prop :=
 ∃ m',e = .returned (.tuple #[]) ∧ Tb P k tM z w' r N m' (fun i => if i = n then c n + 1 else c i) (updV v n key x) ∧ Kept (r :: (m n).toList) w w' ∧ (∀ i,i ≠ n → m' i = m i) ∧ (m' n = m n ∨ (m n = none ∧ ∃ b,m' n = some b ∧ w.heap.size ≤ b))
theorem updV_at (v : Nat → Value → Value) (n : Nat) (key x : Value) : updV v n key x n key = x:=by simp [updV]
theorem updV_key (v : Nat → Value → Value) (n : Nat) (key x y : Value) (h : y ≠ key) : updV v n key x n y = v n y:=by simp [updV,h]
end Go.Df
namespace Go.Proofs.YtincpmdldpakkaaGreatDoor
open Go.RowKit Go.Df Go.Maps
attribute [local go_sem ↓] Go.wp_at_zero Go.wp_at_succ
theorem Tryz.rowPair : (101 : TypeId) < Tryz.prog.types.size:=of_decide_eq_true (by kernel_rfl)
theorem Tryz.deepPair : Tryz.prog.keyTypeAt (Tryz.prog.types.size + 1) 101 = true:=by kernel_rfl
theorem Tryz.deepPair2 : Tryz.prog.keyTypeAt 2 101 = true:=by kernel_rfl
theorem Tryz.fieldsPair : fieldsOf Tryz.prog 101 = [("In", 3, 0), ("Out", 3, 1)] := by kernel_rfl
theorem Tryz.lawPair : Maps.Keyed Tryz.prog 101:=keyed_struct Tryz.laidOut Tryz.rowPair Tryz.deepPair2 Tryz.fieldsPair (by simp)
theorem Tryz.cellsPair : Tryz.prog.cellsOf 101 = 2:=by kernel_rfl
theorem Tryz.keyPair (a b : Int) (ha : (Lit.int .i64 a).wf = true) (hb : (Lit.int .i64 b).wf = true) : ∃ kl,keyOf Tryz.prog 101 (.agg #[.int .i64 a,.int .i64 b]) = some kl :=
 keyOf_two Tryz.fieldsPair (by decide) (by decide) Tryz.deepPair Tryz.rowPair Tryz.cellsPair Tryz.undInt Tryz.cellsInt a b ha hb
theorem Tryz.zeroX (w : World) : (zeroValue 71).run Tryz.prog w = .ok (.agg #[.int .i64 0,.int .i64 0,.int .i64 0]) w:=by kernel_rfl
theorem Tryz.zeroV (w : World) : (zeroValue 46).run Tryz.prog w = .ok (.agg #[.int .i64 0,.int .i64 0]) w:=by kernel_rfl
theorem Tryz.zeroL (w : World) : (zeroValue 30).run Tryz.prog w = .ok (.slice none 0 0) w:=by kernel_rfl
theorem Tryz.mapPX : Tryz.prog.underlying 84 = some (.map 101 71):=by kernel_rfl
theorem Tryz.mapIL : Tryz.prog.underlying 233 = some (.map 3 30):=by kernel_rfl
theorem Tryz.mapIV : Tryz.prog.underlying 179 = some (.map 3 46):=by kernel_rfl
abbrev TbX (w : World) (r N : Nat) (m : Nat → Option Nat) (c : Nat → Nat) (v : Nat → Value → Value) : Prop:=Tb Tryz.prog 101 84 (.agg #[.int .i64 0,.int .i64 0,.int .i64 0]) w r N m c v
abbrev TbL (w : World) (r N : Nat) (m : Nat → Option Nat) (c : Nat → Nat) (v : Nat → Value → Value) : Prop:=Tb Tryz.prog 3 233 (.slice none 0 0) w r N m c v
abbrev TbV (w : World) (r N : Nat) (m : Nat → Option Nat) (c : Nat → Nat) (v : Nat → Value → Value) : Prop:=Tb Tryz.prog 3 179 (.agg #[.int .i64 0,.int .i64 0]) w r N m c v
set_option maxRecDepth 100000 in
set_option maxHeartbeats 4000000 in
theorem getx_any (r N c0 n : Nat) (a d : Nat) (m : Nat → Option Nat) (c : Nat → Nat) (v : Nat → Value → Value) (w : World) (ht : TbX w r N m c v) (hn : n < N) (ha : a ≤ 1000000) (hd : d ≤ 1000000) (y0 y1 y2 : Int) (hv : v n (.agg #[.int .i64 a,.int .i64 d]) = .agg #[.int .i64 y0,.int .i64 y1,.int .i64 y2]) :
   Calls Tryz.prog 83 #[.agg #[.slice (some ⟨r,0,none⟩) N c0],.int .i64 n,.agg #[.int .i64 a,.int .i64 d]] w fun e w' => e = .returned (.agg #[.int .i64 y0,.int .i64 y1,.int .i64 y2]) ∧ Below w.heap.size w w':=by
 have HT:=Lib.hid ht
 have hrl:=ht.rtag.lt
 have HVV:=Lib.hid hv
 clear ht hv
 have hn1 : (n : Int) < (N : Int):=by omega
 obtain ⟨kl,hkl⟩:=Tryz.keyPair (a : Int) (d : Int) (WalkArith.wf_i64 (by omega)) (WalkArith.wf_i64 (by omega))
 have HK:=Lib.hid hkl
 clear hkl
 go_enter Tryz.func83,Tryz.ntmps83
 go_upto_region 1 with fail
 refine wp_named (fun W => ∃ b0 b1 b2,w.heap.size = b0 ∧ w.heap.size + 1 = b1 ∧ w.heap.size + 1 + 1 = b2 ∧ Blk W b0 [.slice (some ⟨r,0,none⟩) N c0] ∧ Blk W b1 [.int .i64 a,.int .i64 d] ∧ Blk W b2 [.int .i64 0,.int .i64 0,.int .i64 0] ∧ Below w.heap.size w W) ⟨_,_,_,rfl,rfl,rfl,?_,?_,?_,?_⟩ ?_
 · exact ((Blk.new _ _ _ _ (by first | rfl | simp)).alloc _).alloc _
 · exact (Blk.new _ _ _ _ (by first | rfl | simp)).alloc _
 · exact kbn
 · go_grown
 rintro W ⟨b0,b1,b2,e0,e1,e2,B0,B1,B2,hB⟩
 rw [e2,e1,e0]
 have G0 : w.heap.size ≤ b0:=by omega
 have n01 : b0 ≠ b1:=by omega
 have n02 : b0 ≠ b2:=by omega
 have G1 : w.heap.size ≤ b1:=by omega
 have n10 : b1 ≠ b0:=by omega
 have n12 : b1 ≠ b2:=by omega
 have G2 : w.heap.size ≤ b2:=by omega
 have n20 : b2 ≠ b0:=by omega
 have n21 : b2 ≠ b1:=by omega
 clear e0 e1 e2
 have ⟨L0,C0,F0⟩:=B0
 have ⟨L1,C1,F1⟩:=B1
 have ⟨L2,C2,F2⟩:=B2
 have hkW : Kept [] w W:=(Kept.refl _ _).call hB
 have HTW:=Lib.hid (HT.out.kept hkW (by simp) (by simp))
 have hcell:=HTW.out.cell hn
 have hrW : r < W.heap.size:=HTW.out.rtag.lt
 cases hm : m n with
 | none =>
   rw [hm] at hcell
   have HZ:=Lib.hid (HTW.out.no n hn hm (.agg #[.int .i64 a,.int .i64 d]))
   have hrun : (Instr.lookup 84 (.map none) (.agg #[.int .i64 a,.int .i64 d]) false).run Tryz.prog W.drew = .ok (.agg #[.int .i64 y0,.int .i64 y1,.int .i64 y2]) W.drew:=by
     have:=Maps.look_nil (w:=W.drew) false Tryz.lawPair Tryz.mapPX (Tryz.zeroX W.drew) HK.out
     rw [← HZ.out,HVV.out] at this
     simpa using this
   clear hm
   go_wp2_with fail
   refine wp_region_E 7 (fun w' => SX0 W w') (by kernel_rfl) (by (exact kp0)) (fun hHeld => ?_)
   refine WE_tk 0 ?_
   refine WE_tk 1 ?_
   refine WE_tk 2 ?_
   refine WE_tk 3 ?_
   refine WE_tk 4 ?_
   refine WE_tk 5 ?_
   refine WE_step 6 rfl (by kernel_rfl) (fun K hK => ?_)
   go_simp
   refine hK.out _ _ ?_ (fun hHeld => ?_)
   · (exact kp0)
   clear hK K
   refine WE_put ?_
   refine WE_last rfl (by kernel_rfl) (fun K hK => ?_)
   go_simp
   refine hK.out _ _ ?_
   clear hK K
   go_wp2_with fail
   refine bodyPost_ret (by simp [results,Tryz.results83,go_sem, *];rfl) rfl ?_
   refine ⟨rfl,Kept.below (X:=[b2]) hB hB.size (by simp;omega) ?_⟩
   exact ((((Kept.refl [b2] W).drew.set b2 0 _ (.inl (by simp))).set b2 1 _ (.inl (by simp))).set b2 2 _ (.inl (by simp)))
 | some b =>
   rw [hm] at hcell
   have hrun : (Instr.lookup 84 (.map (some b)) (.agg #[.int .i64 a,.int .i64 d]) false).run Tryz.prog W.drew = .ok (.agg #[.int .i64 y0,.int .i64 y1,.int .i64 y2]) W.drew:=by
     have:=((HTW.out.is n b hn hm).same (w':=W.drew) rfl).look Tryz.lawPair Tryz.mapPX (Tryz.zeroX W.drew) HK.out
     rw [HVV.out] at this
     exact this
   clear hm
   go_wp2_with fail
   refine wp_region_E 7 (fun w' => SX0 W w') (by kernel_rfl) (by (exact kp0)) (fun hHeld => ?_)
   refine WE_tk 0 ?_
   refine WE_tk 1 ?_
   refine WE_tk 2 ?_
   refine WE_tk 3 ?_
   refine WE_tk 4 ?_
   refine WE_tk 5 ?_
   refine WE_step 6 rfl (by kernel_rfl) (fun K hK => ?_)
   go_simp
   refine hK.out _ _ ?_ (fun hHeld => ?_)
   · (exact kp0)
   clear hK K
   refine WE_put ?_
   refine WE_last rfl (by kernel_rfl) (fun K hK => ?_)
   go_simp
   refine hK.out _ _ ?_
   clear hK K
   go_wp2_with fail
   refine bodyPost_ret (by simp [results,Tryz.results83,go_sem, *];rfl) rfl ?_
   refine ⟨rfl,Kept.below (X:=[b2]) hB hB.size (by simp;omega) ?_⟩
   exact ((((Kept.refl [b2] W).drew.set b2 0 _ (.inl (by simp))).set b2 1 _ (.inl (by simp))).set b2 2 _ (.inl (by simp)))
set_option maxRecDepth 100000 in
set_option maxHeartbeats 4000000 in
theorem putx_any (r N c0 n : Nat) (a d : Nat) (m : Nat → Option Nat) (c : Nat → Nat) (v : Nat → Value → Value) (y0 y1 y2 : Int) (w : World) (ht : TbX w r N m c v) (hn : n < N) (ha : a ≤ 1000000) (hd : d ≤ 1000000) (hc : c n < maxLen) (hz : ¬ (y0 = 0 ∧ y1 = 0 ∧ y2 = 0)) :
   Calls Tryz.prog 135 #[.agg #[.slice (some ⟨r,0,none⟩) N c0],.int .i64 n,.agg #[.int .i64 a,.int .i64 d],.agg #[.int .i64 y0,.int .i64 y1,.int .i64 y2]] w (PutT Tryz.prog 101 84 (.agg #[.int .i64 0,.int .i64 0,.int .i64 0]) w r N m c v n (.agg #[.int .i64 a,.int .i64 d]) (.agg #[.int .i64 y0,.int .i64 y1,.int .i64 y2])):=by
 have HT:=Lib.hid ht
 have hrl:=ht.rtag.lt
 clear ht
 have hn1 : (n : Int) < (N : Int):=by omega
 obtain ⟨kl,hkl⟩:=Tryz.keyPair (a : Int) (d : Int) (WalkArith.wf_i64 (by omega)) (WalkArith.wf_i64 (by omega))
 have HK:=Lib.hid hkl
 clear hkl
 have hmm:=@run_makeMap Tryz.prog
 have hqm:=fun w r => run_eql_map_nil (P:=Tryz.prog) w 84 101 71 r Tryz.mapPX
 go_enter Tryz.func135,Tryz.ntmps135
 go_upto_region 1 with fail
 refine wp_named (fun W => ∃ b0 b1 b2,w.heap.size = b0 ∧ w.heap.size + 1 = b1 ∧ w.heap.size + 1 + 1 = b2 ∧ Blk W b0 [.slice (some ⟨r,0,none⟩) N c0] ∧ Blk W b1 [.int .i64 a,.int .i64 d] ∧ Blk W b2 [.int .i64 y0,.int .i64 y1,.int .i64 y2] ∧ Below w.heap.size w W) ⟨_,_,_,rfl,rfl,rfl,?_,?_,?_,?_⟩ ?_
 · exact ((Blk.new _ _ _ _ (by first | rfl | simp)).alloc _).alloc _
 · exact (Blk.new _ _ _ _ (by first | rfl | simp)).alloc _
 · exact kbn
 · go_grown
 rintro W ⟨b0,b1,b2,e0,e1,e2,B0,B1,B2,hB⟩
 rw [e2,e1,e0]
 have G0 : w.heap.size ≤ b0:=by omega
 have n01 : b0 ≠ b1:=by omega
 have n02 : b0 ≠ b2:=by omega
 have G1 : w.heap.size ≤ b1:=by omega
 have n10 : b1 ≠ b0:=by omega
 have n12 : b1 ≠ b2:=by omega
 have G2 : w.heap.size ≤ b2:=by omega
 have n20 : b2 ≠ b0:=by omega
 have n21 : b2 ≠ b1:=by omega
 clear e0 e1 e2
 have ⟨L0,C0,F0⟩:=B0
 have ⟨L1,C1,F1⟩:=B1
 have ⟨L2,C2,F2⟩:=B2
 have hkW : Kept [] w W:=(Kept.refl _ _).call hB
 have HTW:=Lib.hid (HT.out.kept hkW (by simp) (by simp))
 have hcell:=HTW.out.cell hn
 have hfr:=HTW.out.rtag.frozen n
 have hrW : r < W.heap.size:=HTW.out.rtag.lt
 have hb0r : b0 ≠ r:=by omega
 have hb1r : b1 ≠ r:=by omega
 have hb2r : b2 ≠ r:=by omega
 cases hm : m n with
 | none =>
   rw [hm] at hcell
   go_upto_region 3 with fail
   refine wp_named (fun V => ∃ b,W.heap.size = b ∧ TbX V r N (fun i => if i = n then some b else m i) c v ∧ Kept [r] W V) ⟨_,rfl,?_,?_⟩ ?_
   · rw [← World.setCell_alloc_past _ _ _ _ hrW]
     exact HTW.out.fresh hn hm rfl
   · exact ((Kept.refl [r] W).set r n _ (.inl (by simp))).alloc _
   rintro V ⟨b,eb,TV,hkV⟩
   have ⟨L0',C0',F0'⟩:=hkV.blk (by simpa using hb0r) B0
   have ⟨L1',C1',F1'⟩:=hkV.blk (by simpa using hb1r) B1
   have ⟨L2',C2',F2'⟩:=hkV.blk (by simpa using hb2r) B2
   have hcV:=TV.cell hn
   rw [if_pos rfl] at hcV
   have hrV : r < V.heap.size:=TV.rtag.lt
   have MB:=TV.is n b hn (if_pos rfl)
   have HTV:=Lib.hid TV
   have HMB:=Lib.hid MB
   have HM:=Lib.hid hm
   clear C0 F0 C1 F1 C2 F2 hcell hfr hm TV MB
   obtain ⟨w9,hrun,hmt,hk9⟩:=(HMB.out.same (w':=V.drew) rfl).store Tryz.lawPair Tryz.mapPX hc HK.out (updV v n (.agg #[.int .i64 a,.int .i64 d]) (.agg #[.int .i64 y0,.int .i64 y1,.int .i64 y2]) n) (updV_at _ _ _ _) (fun x hx => updV_key _ _ _ _ _ hx) (by intro h9;simp at h9;omega)
   refine wp_region_E 7 (fun w' => SX0 V w') (by kernel_rfl) (by (exact kp0)) (fun hHeld => ?_)
   refine WE_tk 0 ?_
   refine WE_tk 1 ?_
   refine WE_tk 2 ?_
   refine WE_tk 3 ?_
   refine WE_tk 4 ?_
   refine WE_tk 5 ?_
   refine WE_tk 6 ?_
   refine WE_last rfl (by kernel_rfl) (fun K hK => ?_)
   go_simp
   refine hK.out _ _ ?_
   clear hK K
   go_wp2_with fail
   go_end0
   replace hk9 : Kept [b] V w9:=((Kept.refl [b] V).drew).next hk9 (fun y hy => .inl hy)
   have hT:=HTV.out.stored hn (if_pos rfl) hk9 hmt
   refine ⟨_,rfl,hT,?_,fun i hi => if_neg hi,.inr ⟨HM.out,b,if_pos rfl,?_⟩⟩
   · rw [HM.out]
     have h1 : Kept [r] w V:=Kept.next (keptWide hkW (by simp)) hkV (by simp)
     exact h1.next hk9 (by intro y hy;right;simp at hy;subst hy;have:=hkW.size;omega)
   · have:=hkW.size;omega
 | some b =>
   rw [hm] at hcell
   have HMB:=Lib.hid (HTW.out.is n b hn hm)
   have HM:=Lib.hid hm
   clear hm
   go_upto_region 3 with fail
   obtain ⟨w9,hrun,hmt,hk9⟩:=(HMB.out.same (w':=W.drew) rfl).store Tryz.lawPair Tryz.mapPX hc HK.out (updV v n (.agg #[.int .i64 a,.int .i64 d]) (.agg #[.int .i64 y0,.int .i64 y1,.int .i64 y2]) n) (updV_at _ _ _ _) (fun x hx => updV_key _ _ _ _ _ hx) (by intro h9;simp at h9;omega)
   refine wp_region_E 7 (fun w' => SX0 W w') (by kernel_rfl) (by (exact kp0)) (fun hHeld => ?_)
   refine WE_tk 0 ?_
   refine WE_tk 1 ?_
   refine WE_tk 2 ?_
   refine WE_tk 3 ?_
   refine WE_tk 4 ?_
   refine WE_tk 5 ?_
   refine WE_tk 6 ?_
   refine WE_last rfl (by kernel_rfl) (fun K hK => ?_)
   go_simp
   refine hK.out _ _ ?_
   clear hK K
   go_wp2_with fail
   go_end0
   replace hk9 : Kept [b] W w9:=((Kept.refl [b] W).drew).next hk9 (fun y hy => .inl hy)
   have hT:=HTW.out.stored hn HM.out hk9 hmt
   refine ⟨_,rfl,hT,?_,fun i hi => rfl,.inl rfl⟩
   rw [HM.out]
   exact Kept.next (X:=r :: [b]) (keptWide hkW (by simp)) hk9 (by simp)
set_option maxRecDepth 100000 in
set_option maxHeartbeats 4000000 in
theorem getl_any (r N c0 n : Nat) (a : Nat) (m : Nat → Option Nat) (c : Nat → Nat) (v : Nat → Value → Value) (w : World) (ht : TbL w r N m c v) (hn : n < N) (ha : a ≤ 1000000)  :
   Calls Tryz.prog 82 #[.agg #[.slice (some ⟨r,0,none⟩) N c0],.int .i64 n,.int .i64 a] w fun e w' => e = .returned (v n (.int .i64 a)) ∧ Below w.heap.size w w':=by
 have HT:=Lib.hid ht
 have hrl:=ht.rtag.lt
 clear ht
 have hn1 : (n : Int) < (N : Int):=by omega
 obtain ⟨kl,hkl⟩ : ∃ kl,keyOf Tryz.prog 3 (.int .i64 (a : Int)) = some kl:=⟨_,Tryz.keyInt (a : Int) (WalkArith.wf_i64 (by omega))⟩
 have HK:=Lib.hid hkl
 clear hkl
 go_enter Tryz.func82,Tryz.ntmps82
 go_upto_region 1 with fail
 refine wp_named (fun W => ∃ b0,w.heap.size = b0 ∧ Blk W b0 [.slice (some ⟨r,0,none⟩) N c0] ∧ Below w.heap.size w W) ⟨_,rfl,?_,?_⟩ ?_
 · exact kbn
 · go_grown
 rintro W ⟨b0,e0,B0,hB⟩
 rw [e0]
 have G0 : w.heap.size ≤ b0:=by omega
 clear e0
 have ⟨L0,C0,F0⟩:=B0
 have hkW : Kept [] w W:=(Kept.refl _ _).call hB
 have HTW:=Lib.hid (HT.out.kept hkW (by simp) (by simp))
 have hcell:=HTW.out.cell hn
 have hrW : r < W.heap.size:=HTW.out.rtag.lt
 cases hm : m n with
 | none =>
   rw [hm] at hcell
   have HZ:=Lib.hid (HTW.out.no n hn hm (.int .i64 a))
   have hrun : (Instr.lookup 233 (.map none) (.int .i64 a) false).run Tryz.prog W = .ok (.slice none 0 0) W:=by
     have:=Maps.look_nil (w:=W) false Tryz.lawInt Tryz.mapIL (Tryz.zeroL W) HK.out
     simpa using this
   clear hm
   go_wp2
   go_ret
   rw [HZ.out]
   exact ⟨rfl,hB⟩
 | some b =>
   rw [hm] at hcell
   have hrun : (Instr.lookup 233 (.map (some b)) (.int .i64 a) false).run Tryz.prog W = .ok (v n (.int .i64 a)) W:=by
     have:=((HTW.out.is n b hn hm).same (w':=W) rfl).look Tryz.lawInt Tryz.mapIL (Tryz.zeroL W) HK.out
     exact this
   clear hm
   go_wp2
   go_ret
   exact ⟨rfl,hB⟩
set_option maxRecDepth 100000 in
set_option maxHeartbeats 4000000 in
theorem putl_any (r N c0 n : Nat) (a : Nat) (m : Nat → Option Nat) (c : Nat → Nat) (v : Nat → Value → Value) (A : Option Addr) (y0 y1 : Nat) (w : World) (ht : TbL w r N m c v) (hn : n < N) (ha : a ≤ 1000000) (hc : c n < maxLen) (hz : y0 ≠ 0:=by omega) :
   Calls Tryz.prog 133 #[.agg #[.slice (some ⟨r,0,none⟩) N c0],.int .i64 n,.int .i64 a,.slice A y0 y1] w (PutT Tryz.prog 3 233 (.slice none 0 0) w r N m c v n (.int .i64 a) (.slice A y0 y1)):=by
 have HT:=Lib.hid ht
 have hrl:=ht.rtag.lt
 clear ht
 have hn1 : (n : Int) < (N : Int):=by omega
 obtain ⟨kl,hkl⟩ : ∃ kl,keyOf Tryz.prog 3 (.int .i64 (a : Int)) = some kl:=⟨_,Tryz.keyInt (a : Int) (WalkArith.wf_i64 (by omega))⟩
 have HK:=Lib.hid hkl
 clear hkl
 have hmm:=@run_makeMap Tryz.prog
 have hqm:=fun w r => run_eql_map_nil (P:=Tryz.prog) w 233 3 30 r Tryz.mapIL
 go_enter Tryz.func133,Tryz.ntmps133
 go_upto_region 1 with fail
 refine wp_named (fun W => ∃ b0,w.heap.size = b0 ∧ Blk W b0 [.slice (some ⟨r,0,none⟩) N c0] ∧ Below w.heap.size w W) ⟨_,rfl,?_,?_⟩ ?_
 · exact kbn
 · go_grown
 rintro W ⟨b0,e0,B0,hB⟩
 rw [e0]
 have G0 : w.heap.size ≤ b0:=by omega
 clear e0
 have ⟨L0,C0,F0⟩:=B0
 have hkW : Kept [] w W:=(Kept.refl _ _).call hB
 have HTW:=Lib.hid (HT.out.kept hkW (by simp) (by simp))
 have hcell:=HTW.out.cell hn
 have hfr:=HTW.out.rtag.frozen n
 have hrW : r < W.heap.size:=HTW.out.rtag.lt
 have hb0r : b0 ≠ r:=by omega
 cases hm : m n with
 | none =>
   rw [hm] at hcell
   go_upto_region 3 with fail
   refine wp_named (fun V => ∃ b,W.heap.size = b ∧ TbL V r N (fun i => if i = n then some b else m i) c v ∧ Kept [r] W V) ⟨_,rfl,?_,?_⟩ ?_
   · rw [← World.setCell_alloc_past _ _ _ _ hrW]
     exact HTW.out.fresh hn hm rfl
   · exact ((Kept.refl [r] W).set r n _ (.inl (by simp))).alloc _
   rintro V ⟨b,eb,TV,hkV⟩
   have ⟨L0',C0',F0'⟩:=hkV.blk (by simpa using hb0r) B0
   have hcV:=TV.cell hn
   rw [if_pos rfl] at hcV
   have hrV : r < V.heap.size:=TV.rtag.lt
   have MB:=TV.is n b hn (if_pos rfl)
   have HTV:=Lib.hid TV
   have HMB:=Lib.hid MB
   have HM:=Lib.hid hm
   clear C0 F0 hcell hfr hm TV MB
   obtain ⟨w9,hrun,hmt,hk9⟩:=(HMB.out.same (w':=V) rfl).store Tryz.lawInt Tryz.mapIL hc HK.out (updV v n (.int .i64 a) (.slice A y0 y1) n) (updV_at _ _ _ _) (fun x hx => updV_key _ _ _ _ _ hx) (by intro h9;simp at h9;omega)
   go_wp2
   go_end0
   have hT:=HTV.out.stored hn (if_pos rfl) hk9 hmt
   refine ⟨_,rfl,hT,?_,fun i hi => if_neg hi,.inr ⟨HM.out,b,if_pos rfl,?_⟩⟩
   · rw [HM.out]
     have h1 : Kept [r] w V:=Kept.next (keptWide hkW (by simp)) hkV (by simp)
     exact h1.next hk9 (by intro y hy;right;simp at hy;subst hy;have:=hkW.size;omega)
   · have:=hkW.size;omega
 | some b =>
   rw [hm] at hcell
   have HMB:=Lib.hid (HTW.out.is n b hn hm)
   have HM:=Lib.hid hm
   clear hm

   obtain ⟨w9,hrun,hmt,hk9⟩:=(HMB.out.same (w':=W) rfl).store Tryz.lawInt Tryz.mapIL hc HK.out (updV v n (.int .i64 a) (.slice A y0 y1) n) (updV_at _ _ _ _) (fun x hx => updV_key _ _ _ _ _ hx) (by intro h9;simp at h9;omega)
   go_wp2
   go_end0
   have hT:=HTW.out.stored hn HM.out hk9 hmt
   refine ⟨_,rfl,hT,?_,fun i hi => rfl,.inl rfl⟩
   rw [HM.out]
   exact Kept.next (X:=r :: [b]) (keptWide hkW (by simp)) hk9 (by simp)
set_option maxRecDepth 100000 in
set_option maxHeartbeats 4000000 in
theorem getv_any (r N c0 n : Nat) (a : Nat) (m : Nat → Option Nat) (c : Nat → Nat) (v : Nat → Value → Value) (w : World) (ht : TbV w r N m c v) (hn : n < N) (ha : a ≤ 1000000) (y0 y1 : Int) (hv : v n (.int .i64 a) = .agg #[.int .i64 y0,.int .i64 y1]) :
   Calls Tryz.prog 35 #[.agg #[.slice (some ⟨r,0,none⟩) N c0],.int .i64 n,.int .i64 a] w fun e w' => e = .returned (.agg #[.int .i64 y0,.int .i64 y1]) ∧ Below w.heap.size w w':=by
 have HT:=Lib.hid ht
 have hrl:=ht.rtag.lt
 have HVV:=Lib.hid hv
 clear ht hv
 have hn1 : (n : Int) < (N : Int):=by omega
 obtain ⟨kl,hkl⟩ : ∃ kl,keyOf Tryz.prog 3 (.int .i64 (a : Int)) = some kl:=⟨_,Tryz.keyInt (a : Int) (WalkArith.wf_i64 (by omega))⟩
 have HK:=Lib.hid hkl
 clear hkl
 go_enter Tryz.func35,Tryz.ntmps35
 go_upto_region 1 with fail
 refine wp_named (fun W => ∃ b0 b1,w.heap.size = b0 ∧ w.heap.size + 1 = b1 ∧ Blk W b0 [.slice (some ⟨r,0,none⟩) N c0] ∧ Blk W b1 [.int .i64 0,.int .i64 0] ∧ Below w.heap.size w W) ⟨_,_,rfl,rfl,?_,?_,?_⟩ ?_
 · exact (Blk.new _ _ _ _ (by first | rfl | simp)).alloc _
 · exact kbn
 · go_grown
 rintro W ⟨b0,b1,e0,e1,B0,B1,hB⟩
 rw [e1,e0]
 have G0 : w.heap.size ≤ b0:=by omega
 have n01 : b0 ≠ b1:=by omega
 have G1 : w.heap.size ≤ b1:=by omega
 have n10 : b1 ≠ b0:=by omega
 clear e0 e1
 have ⟨L0,C0,F0⟩:=B0
 have ⟨L1,C1,F1⟩:=B1
 have hkW : Kept [] w W:=(Kept.refl _ _).call hB
 have HTW:=Lib.hid (HT.out.kept hkW (by simp) (by simp))
 have hcell:=HTW.out.cell hn
 have hrW : r < W.heap.size:=HTW.out.rtag.lt
 cases hm : m n with
 | none =>
   rw [hm] at hcell
   have HZ:=Lib.hid (HTW.out.no n hn hm (.int .i64 a))
   have hrun : (Instr.lookup 179 (.map none) (.int .i64 a) false).run Tryz.prog W = .ok (.agg #[.int .i64 y0,.int .i64 y1]) W:=by
     have:=Maps.look_nil (w:=W) false Tryz.lawInt Tryz.mapIV (Tryz.zeroV W) HK.out
     rw [← HZ.out,HVV.out] at this
     simpa using this
   clear hm
   go_wp2
   refine bodyPost_ret (by simp [results,Tryz.results35,go_sem, *];rfl) rfl ?_
   refine ⟨rfl,Kept.below (X:=[b1]) hB hB.size (by simp;omega) ?_⟩
   exact (((Kept.refl [b1] W).set b1 0 _ (.inl (by simp))).set b1 1 _ (.inl (by simp)))
 | some b =>
   rw [hm] at hcell
   have hrun : (Instr.lookup 179 (.map (some b)) (.int .i64 a) false).run Tryz.prog W = .ok (.agg #[.int .i64 y0,.int .i64 y1]) W:=by
     have:=((HTW.out.is n b hn hm).same (w':=W) rfl).look Tryz.lawInt Tryz.mapIV (Tryz.zeroV W) HK.out
     rw [HVV.out] at this
     exact this
   clear hm
   go_wp2
   refine bodyPost_ret (by simp [results,Tryz.results35,go_sem, *];rfl) rfl ?_
   refine ⟨rfl,Kept.below (X:=[b1]) hB hB.size (by simp;omega) ?_⟩
   exact (((Kept.refl [b1] W).set b1 0 _ (.inl (by simp))).set b1 1 _ (.inl (by simp)))
set_option maxRecDepth 100000 in
set_option maxHeartbeats 4000000 in
theorem putv_any (r N c0 n : Nat) (a : Nat) (m : Nat → Option Nat) (c : Nat → Nat) (v : Nat → Value → Value) (y0 y1 : Int) (w : World) (ht : TbV w r N m c v) (hn : n < N) (ha : a ≤ 1000000) (hc : c n < maxLen) (hz : ¬ (y0 = 0 ∧ y1 = 0)) :
   Calls Tryz.prog 141 #[.agg #[.slice (some ⟨r,0,none⟩) N c0],.int .i64 n,.int .i64 a,.agg #[.int .i64 y0,.int .i64 y1]] w (PutT Tryz.prog 3 179 (.agg #[.int .i64 0,.int .i64 0]) w r N m c v n (.int .i64 a) (.agg #[.int .i64 y0,.int .i64 y1])):=by
 have HT:=Lib.hid ht
 have hrl:=ht.rtag.lt
 clear ht
 have hn1 : (n : Int) < (N : Int):=by omega
 obtain ⟨kl,hkl⟩ : ∃ kl,keyOf Tryz.prog 3 (.int .i64 (a : Int)) = some kl:=⟨_,Tryz.keyInt (a : Int) (WalkArith.wf_i64 (by omega))⟩
 have HK:=Lib.hid hkl
 clear hkl
 have hmm:=@run_makeMap Tryz.prog
 have hqm:=fun w r => run_eql_map_nil (P:=Tryz.prog) w 179 3 46 r Tryz.mapIV
 go_enter Tryz.func141,Tryz.ntmps141
 go_upto_region 1 with fail
 refine wp_named (fun W => ∃ b0 b1,w.heap.size = b0 ∧ w.heap.size + 1 = b1 ∧ Blk W b0 [.slice (some ⟨r,0,none⟩) N c0] ∧ Blk W b1 [.int .i64 y0,.int .i64 y1] ∧ Below w.heap.size w W) ⟨_,_,rfl,rfl,?_,?_,?_⟩ ?_
 · exact (Blk.new _ _ _ _ (by first | rfl | simp)).alloc _
 · exact kbn
 · go_grown
 rintro W ⟨b0,b1,e0,e1,B0,B1,hB⟩
 rw [e1,e0]
 have G0 : w.heap.size ≤ b0:=by omega
 have n01 : b0 ≠ b1:=by omega
 have G1 : w.heap.size ≤ b1:=by omega
 have n10 : b1 ≠ b0:=by omega
 clear e0 e1
 have ⟨L0,C0,F0⟩:=B0
 have ⟨L1,C1,F1⟩:=B1
 have hkW : Kept [] w W:=(Kept.refl _ _).call hB
 have HTW:=Lib.hid (HT.out.kept hkW (by simp) (by simp))
 have hcell:=HTW.out.cell hn
 have hfr:=HTW.out.rtag.frozen n
 have hrW : r < W.heap.size:=HTW.out.rtag.lt
 have hb0r : b0 ≠ r:=by omega
 have hb1r : b1 ≠ r:=by omega
 cases hm : m n with
 | none =>
   rw [hm] at hcell
   go_upto_region 3 with fail
   refine wp_named (fun V => ∃ b,W.heap.size = b ∧ TbV V r N (fun i => if i = n then some b else m i) c v ∧ Kept [r] W V) ⟨_,rfl,?_,?_⟩ ?_
   · rw [← World.setCell_alloc_past _ _ _ _ hrW]
     exact HTW.out.fresh hn hm rfl
   · exact ((Kept.refl [r] W).set r n _ (.inl (by simp))).alloc _
   rintro V ⟨b,eb,TV,hkV⟩
   have ⟨L0',C0',F0'⟩:=hkV.blk (by simpa using hb0r) B0
   have ⟨L1',C1',F1'⟩:=hkV.blk (by simpa using hb1r) B1
   have hcV:=TV.cell hn
   rw [if_pos rfl] at hcV
   have hrV : r < V.heap.size:=TV.rtag.lt
   have MB:=TV.is n b hn (if_pos rfl)
   have HTV:=Lib.hid TV
   have HMB:=Lib.hid MB
   have HM:=Lib.hid hm
   clear C0 F0 C1 F1 hcell hfr hm TV MB
   obtain ⟨w9,hrun,hmt,hk9⟩:=(HMB.out.same (w':=V.drew) rfl).store Tryz.lawInt Tryz.mapIV hc HK.out (updV v n (.int .i64 a) (.agg #[.int .i64 y0,.int .i64 y1]) n) (updV_at _ _ _ _) (fun x hx => updV_key _ _ _ _ _ hx) (by intro h9;simp at h9;omega)
   refine wp_region_E 7 (fun w' => SX0 V w') (by kernel_rfl) (by (exact kp0)) (fun hHeld => ?_)
   refine WE_tk 0 ?_
   refine WE_tk 1 ?_
   refine WE_tk 2 ?_
   refine WE_tk 3 ?_
   refine WE_tk 4 ?_
   refine WE_tk 5 ?_
   refine WE_tk 6 ?_
   refine WE_last rfl (by kernel_rfl) (fun K hK => ?_)
   go_simp
   refine hK.out _ _ ?_
   clear hK K
   go_wp2_with fail
   go_end0
   replace hk9 : Kept [b] V w9:=((Kept.refl [b] V).drew).next hk9 (fun y hy => .inl hy)
   have hT:=HTV.out.stored hn (if_pos rfl) hk9 hmt
   refine ⟨_,rfl,hT,?_,fun i hi => if_neg hi,.inr ⟨HM.out,b,if_pos rfl,?_⟩⟩
   · rw [HM.out]
     have h1 : Kept [r] w V:=Kept.next (keptWide hkW (by simp)) hkV (by simp)
     exact h1.next hk9 (by intro y hy;right;simp at hy;subst hy;have:=hkW.size;omega)
   · have:=hkW.size;omega
 | some b =>
   rw [hm] at hcell
   have HMB:=Lib.hid (HTW.out.is n b hn hm)
   have HM:=Lib.hid hm
   clear hm
   go_upto_region 3 with fail
   obtain ⟨w9,hrun,hmt,hk9⟩:=(HMB.out.same (w':=W.drew) rfl).store Tryz.lawInt Tryz.mapIV hc HK.out (updV v n (.int .i64 a) (.agg #[.int .i64 y0,.int .i64 y1]) n) (updV_at _ _ _ _) (fun x hx => updV_key _ _ _ _ _ hx) (by intro h9;simp at h9;omega)
   refine wp_region_E 7 (fun w' => SX0 W w') (by kernel_rfl) (by (exact kp0)) (fun hHeld => ?_)
   refine WE_tk 0 ?_
   refine WE_tk 1 ?_
   refine WE_tk 2 ?_
   refine WE_tk 3 ?_
   refine WE_tk 4 ?_
   refine WE_tk 5 ?_
   refine WE_tk 6 ?_
   refine WE_last rfl (by kernel_rfl) (fun K hK => ?_)
   go_simp
   refine hK.out _ _ ?_
   clear hK K
   go_wp2_with fail
   go_end0
   replace hk9 : Kept [b] W w9:=((Kept.refl [b] W).drew).next hk9 (fun y hy => .inl hy)
   have hT:=HTW.out.stored hn HM.out hk9 hmt
   refine ⟨_,rfl,hT,?_,fun i hi => rfl,.inl rfl⟩
   rw [HM.out]
   exact Kept.next (X:=r :: [b]) (keptWide hkW (by simp)) hk9 (by simp)
end Go.Proofs.YtincpmdldpakkaaGreatDoor
namespace Go.Df
open Go.RowKit
section
variable {P : Program} (w : World)
theorem run_append_far (base : Nat) (t ty e : TypeId) (i : TypeInfo) (z : Value) (size bytes : Nat) (ht : P.underlying t = some (.slice e)) (hi : P.info? e = some i) (hz : i.zero = some z)
   (hsize : i.size = size) (hby : i.bytes = bytes) (hzs : z.cells.size = size) (hsz : 0 < size)
   (v : Value) (n : Nat) (xs : List Value) (hown : w.ownsRow base e size v n xs)
   (b m c : Nat) (news : List Value) (hr : Rd w size (some ⟨b,0,none⟩) m news) (h1 : ∀ u ∈ news,u.oneCell' = true)
   (N : Nat) (hN : n + m = N) (ys : List Value) (hys : xs ++ news = ys) (h63 : N ≤ maxLen) (hbytes : N * bytes ≤ 140737488355328) (hbase : base ≤ w.heap.size) :
   ∃ A' c' w',(Builtin.append_ #[t,t] ty #[v,.slice (some ⟨b,0,none⟩) m c]).run P w = .ok (.slice A' N c') w' ∧ w'.ownsRow base e size (.slice A' N c') N ys ∧ Kept v.ownBlock.toList w w' ∧
     (∀ g,(Value.slice A' N c').ownBlock = some g → v.ownBlock = some g ∨ (g = w.heap.size ∧ Kept [] w w')):=by
 obtain ⟨A',c',w',hrun,h2,h3,h4⟩:=run_append_rd (P:=P) w base t ty e i z size bytes ht hi hz hsize hby hzs hsz v n xs hown (some ⟨b,0,none⟩) m c news hr (fun h => by cases h) h1 N hN ys hys h63 hbytes hbase
 refine ⟨A',c',w',hrun,h2,h3,fun g hg => ?_⟩
 rcases h4 g hg with h5 | h5
 · exact .inl h5
 · right
   refine ⟨h5,?_⟩
   rcases hown.2 with ⟨rfl,_⟩ | ⟨g0,cap,cur,rfl,hbg,hg0,hnc,hcm,hcs,htake⟩
   · simpa [Value.ownBlock] using h3
   · have hlt : g0 < w.heap.size:=(Array.getElem?_eq_some_iff.1 hg0).1
     have hnl : news.length = m * size:=hr.1
     by_cases hroom : n + m ≤ cap
     · have hfit : n * i.size + news.length ≤ cur.size:=by rw [hnl,hcs,hsize,← Nat.add_mul];exact Nat.mul_le_mul_right _ hroom
       have hr2:=run_append_room (P:=P) w t ty e i ht hi g0 n cap cur hg0 ⟨b,0,none⟩ m c news (by rw [hnl,hsize]) hr.news h1 hroom hfit
       rw [hrun] at hr2
       injection hr2 with e1 _
       rw [e1] at hg
       have : g0 = g:=by simpa [Value.ownBlock] using hg
       omega
     · have holds : ∀ j u,xs[j]? = some u → w.cell? ((⟨g0,0,none⟩ : Addr).add j) = some u:=hown.cells (g:=g0) rfl
       have hr2:=run_append_grow (P:=P) w t ty e i z ht hi hz ⟨g0,0,none⟩ n cap xs (by rw [hsize];exact hown.1) holds ⟨b,0,none⟩ m c news (by rw [hnl,hsize]) hr.news (by omega) (by unfold maxLen at h63;omega) (growslice_fits (by omega) (by rw [hN,hby];exact hbytes))
       rw [hrun] at hr2
       injection hr2 with _ e2
       rw [e2]
       exact ((Kept.refl [] w).drew).alloc _
theorem step_append_far {ops : Array Oper} {o : Oper} {a : Act} {K : Act → World → Prop} {Q : Exit → Act → World → Prop} {E : Prop} (hgd : o.guard = none) (s x : Operand) (t : TypeId)
   (ho : o.op = .call { callee:=.builtin .append,args:=#[s,x],argTypes:=#[t,t] })
   (base : Nat) (e : TypeId) (i : TypeInfo) (z : Value) (size bytes : Nat) (ht : P.underlying t = some (.slice e)) (hi : P.info? e = some i) (hz : i.zero = some z)
   (hsize : i.size = size) (hby : i.bytes = bytes) (hzs : z.cells.size = size) (hsz : 0 < size)
   (v : Value) (n : Nat) (xs : List Value) (hs : a.eval s = v) (hown : w.ownsRow base e size v n xs)
   (b m c : Nat) (news : List Value) (hx : a.eval x = .slice (some ⟨b,0,none⟩) m c) (hr : Rd w size (some ⟨b,0,none⟩) m news) (h1 : ∀ u ∈ news,u.oneCell' = true)
   (N : Nat) (hN : n + m = N) (ys : List Value) (hys : xs ++ news = ys) (h63 : N ≤ maxLen) (hbytes : N * bytes ≤ 140737488355328) (hbase : base ≤ w.heap.size)
   (h : ∀ A' c' w',w'.ownsRow base e size (.slice A' N c') N ys → Kept v.ownBlock.toList w w' → (∀ g,(Value.slice A' N c').ownBlock = some g → v.ownBlock = some g ∨ (g = w.heap.size ∧ Kept [] w w')) → K (a.put o.dst (.slice A' N c')) w') :
   if Region.wanted o (yielded ops a.tmps) = true then Oper.wp P o a w K Q else E:=by
 have hw : Region.wanted o (yielded ops a.tmps) = true:=by simp [Region.wanted,hgd]
 rw [if_pos hw]
 obtain ⟨A',c',w',hr,h2,h3,h4⟩:=run_append_far (P:=P) w base t o.type e i z size bytes ht hi hz hsize hby hzs hsz v n xs hown b m c news hr h1 N hN ys hys h63 hbytes hbase
 unfold Oper.wp execOp
 simp only [ho,resolve,invoke,builtin,Sem.run_bind,Sem.run_pure,Result.andThen_ok,List.map_toArray,List.map_cons,List.map_nil,hs,hx,hr]
 exact h A' c' w' h2 h3 h4
end
end Go.Df
namespace Go.Proofs.YtincpmdldpakkaaGreatDoor.Wl
open Go.Df
def allowed (n : Nat) (x : Int) : Bool:=if 0 < n then decide (0 ≤ x) && decide (x < n) else decide (0 ≤ x) && decide (x < 65536)
def before (r : List Int) (x y : Int) : Bool:=if gi r x.toNat = gi r y.toNat then decide (x < y) else decide (gi r x.toNat < gi r y.toNat)
def index (l : List Int) (x : Int) : Int:=if x ∈ l then (l.idxOf x : Int) else -1
theorem index_hit {l : List Int} {x : Int} {k : Nat} (h : ∀ j,j < k → gi l j ≠ x) (hk : k < l.length) (e : gi l k = x) : index l x = k:=by
 rw [gi_lt hk] at e
 have hm : x ∈ l:=e ▸ List.getElem_mem hk
 have h1 : l.idxOf x = k:=by
   have hlt : l.idxOf x < l.length:=List.idxOf_lt_length_of_mem hm
   have h2 : l[l.idxOf x] = x:=List.getElem_idxOf hlt
   rcases Nat.lt_trichotomy (l.idxOf x) k with h3 | h3 | h3
   · exact absurd ((gi_lt hlt).trans h2) (h _ h3)
   · exact h3
   · have:=List.not_of_lt_findIdx (p:=(· == x)) (xs:=l) (i:=k) h3
     simp [e] at this
 simp [index,hm,h1]
theorem index_miss {l : List Int} {x : Int} (h : ∀ j,j < l.length → gi l j ≠ x) : index l x = -1:=by
 have hm : x ∉ l:=by
   intro hm
   obtain ⟨j,hj,e⟩:=List.getElem_of_mem hm
   exact h j hj ((gi_lt hj).trans e)
 simp [index,hm]
theorem index_nonneg (l : List Int) (x : Int) : (0 ≤ index l x) ↔ x ∈ l:=by
 unfold index;split <;> simp_all
def wo (l : List Int) (x : Int) (k : Nat) : List Int:=(l.take k).filter (fun y => y != x)
theorem take_snoc {l : List Int} {k : Nat} (hk : k < l.length) : l.take (k + 1) = l.take k ++ [gi l k]:=by
 rw [List.take_succ_eq_append_getElem hk,gi_lt hk]
def without (l : List Int) (x : Int) : List Int:=l.filter (fun y => y != x)
def err (r l : List Int) (k : Nat) : Int :=
 if allowed r.length (gi l k) = false then 4 else if gi l k ∈ l.take k then 7
 else if 0 < r.length ∧ 0 < k ∧ before r (gi l k) (gi l (k - 1)) = true then 13 else 0
def errs (r l : List Int) : Nat → Nat → Int
 | _,0 => 0
 | k,n + 1 => if err r l k = 0 then errs r l (k + 1) n else err r l k
def chk (r l : List Int) : Int:=if 8192 < r.length ∨ 8192 < l.length then 3 else errs r l 0 l.length
theorem errs_hit {r l : List Int} (n : Nat) : ∀ (k j : Nat),(∀ i,k ≤ i → i < j → err r l i = 0) → k ≤ j → j < k + n → err r l j ≠ 0 → errs r l k n = err r l j:=by
 induction n with
 | zero => intro k j _ h1 h2;omega
 | succ n ih =>
   intro k j h h1 h2 h3
   rw [errs]
   rcases Nat.lt_or_ge k j with h4 | h4
   · rw [if_pos (h k (Nat.le_refl _) h4)]
     exact ih (k + 1) j (fun i hi hj => h i (by omega) hj) (by omega) (by omega) h3
   · obtain rfl : k = j:=by omega
     rw [if_neg h3]
theorem errs_ok {r l : List Int} (n : Nat) : ∀ k,(∀ i,k ≤ i → i < k + n → err r l i = 0) → errs r l k n = 0:=by
 induction n with
 | zero => intro k _;rfl
 | succ n ih =>
   intro k h
   rw [errs,if_pos (h k (Nat.le_refl _) (by omega))]
   exact ih (k + 1) (fun i hi hj => h i (by omega) (by omega))
theorem chk_hit {r l : List Int} {k : Nat} {e : Int} (hr : r.length ≤ 8192) (hl : l.length ≤ 8192) (h : ∀ j,j < k → err r l j = 0) (hk : k < l.length) (he : err r l k = e) (h0 : e ≠ 0) : chk r l = e:=by
 subst he
 rw [chk,if_neg (by omega)]
 exact errs_hit _ 0 k (fun i _ hi => h i hi) (Nat.zero_le _) (by omega) h0
theorem chk_ok {r l : List Int} (hr : r.length ≤ 8192) (hl : l.length ≤ 8192) (h : ∀ j,j < l.length → err r l j = 0) : chk r l = 0:=by
 rw [chk,if_neg (by omega)]
 exact errs_ok _ 0 (fun i _ hi => h i (by omega))
theorem allowed_lt {n : Nat} {x : Int} (h : allowed n x = true) (hn : n ≤ 8192) : 0 ≤ x ∧ x < 65536 ∧ (0 < n → x < n):=by
 unfold allowed at h;split at h <;> simp at h <;> omega
def Bits (f : Nat → Nat) (S : List Int) : Prop:=(∀ i,f i < 18446744073709551616) ∧ ∀ x : Nat,x < 65536 → ((f (x / 64)).testBit (x % 64) = true ↔ (x : Int) ∈ S)
theorem bits_zero : Bits (fun _ => 0) []:=⟨fun _ => by simp,fun x _ => by simp⟩
theorem bits_set {f : Nat → Nat} {S : List Int} (h : Bits f S) (x : Nat) : Bits (fun i => if i = x / 64 then f i ||| 2 ^ (x % 64) else f i) (S ++ [(x : Int)]):=by
 refine ⟨fun i => ?_,fun y hy => ?_⟩
 · dsimp only
   split
   · have h1 : 2 ^ (x % 64) < 2 ^ 64:=Nat.pow_lt_pow_right (by omega) (Nat.mod_lt _ (by omega))
     have h2:=h.1 i
     exact Nat.or_lt_two_pow (n:=64) (by omega) h1
   · exact h.1 i
 · dsimp only
   have h1:=h.2 y hy
   by_cases e : y / 64 = x / 64
   · rw [if_pos e,Nat.testBit_or,Bool.or_eq_true,h1,Nat.testBit_two_pow,List.mem_append]
     simp only [decide_eq_true_eq,List.mem_singleton]
     constructor
     · rintro (h2 | h2)
       · exact .inl h2
       · exact .inr (by omega)
     · rintro (h2 | h2)
       · exact .inl h2
       · exact .inr (by omega)
   · rw [if_neg e,h1,List.mem_append]
     simp only [List.mem_singleton]
     constructor
     · exact fun h2 => .inl h2
     · rintro (h2 | h2)
       · exact h2
       · exact absurd (by omega : y / 64 = x / 64) e
end Go.Proofs.YtincpmdldpakkaaGreatDoor.Wl
