/- Texts: Le Ea Eb Gk Ma. -/
import Derived.Test.YtincpmdldpakkaaGreatDoorMt02
import Derived.StillTail
import Derived.Test.YtincpmdldpakkaaGreatDoorMt03
import Derived.Test.YtincpmdldpakkaaGreatDoorMt05
import Derived.Maps.Own
import Derived.Maps.OwnSet
import Derived.Maps.Views
import Derived.DeepKeys4
import Derived.MapViews
namespace Go.Df
open Go
section
variable {P : Program} {ops : Array Oper} {Q : Exit → Act → World → Prop} {md : Region.Mode} {S : World → Prop} {n : Nat}
def wpAnyE (P : Program) (md : Region.Mode) (ops : Array Oper) (n : Nat) (Q : Exit → Act → World → Prop) (S : World → Prop) : Nat → Array Bool → Act → World → Prop
 | 0,listed,a,w => Region.ready md ops listed = [] ∧ Q .normal a w
 | fuel + 1,listed,a,w =>
   (Region.ready md ops listed = [] → Q .normal a w) ∧
   ∀ i ∈ Region.ready md ops listed,wpOp P ops Q i (fun a' w' => (i < n → S w') ∧ wpAnyE P md ops n Q S fuel (listed.setIfInBounds i true) a' w') a w
theorem wpAny_of_E : ∀ (fuel : Nat) (listed : Array Bool) (a : Act) (w : World),wpAnyE P md ops n Q S fuel listed a w → wpAny P md ops Q fuel listed a w
 | 0,_,_,_,h => h
 | fuel + 1,_,_,_,h => ⟨h.1,fun i hi => wpOp_mono (fun a' w' h' => wpAny_of_E fuel _ a' w' h'.2) (h.2 i hi)⟩
def lastB (md : Region.Mode) (ops : Array Oper) (n : Nat) : Bool:=Region.sinkB md ops n && Region.chainB md ops n && decide (n < ops.size)
theorem wpAnyE_first {i : Nat} {oi : Oper} {v : Value} (hi : ops[i]? = some oi) (hsel : ∀ (j : Nat) (o : Oper) cs b,ops[j]? = some o → o.op ≠ .select cs b)
   (hl : lastB md ops n = true) (hin : i < n)
   (hQ : ∀ c a w,Q (.panic c) (a.put oi.dst v) w → Q (.panic c) a w) :
   ∀ (fuel : Nat) (listed : Array Bool) (a : Act) (w : World),HeadInv md ops n listed →
     (∀ j oj,ops[j]? = some oj → j ≠ i → listed.getD j true = false → (∀ e ∈ oj.after,Region.binds md e = true → e.on ≠ i) → oi.apart ops oj = true) →
     i ∈ Region.ready md ops listed → YieldsIf P ops S oi v a → S w →
     wpAnyE P md ops n Q S fuel (listed.setIfInBounds i true) (a.put oi.dst v) w → wpAnyE P md ops n Q S (fuel + 1) listed a w:=by
 simp only [lastB,Bool.and_eq_true,decide_eq_true_eq] at hl
 obtain ⟨⟨hs,hc⟩,hn⟩:=hl
 intro fuel
 induction fuel with
 | zero =>
   intro listed a w _ _ hr hy hS H
   refine ⟨fun h => (by rw [h] at hr;cases hr),fun j hj => ?_⟩
   by_cases hji : j = i
   · subst hji;exact hy.wpOp hi hS ⟨fun _ => hS,H⟩
   · have:=ready_mono hj hji
     rw [H.1] at this
     cases this
 | succ fuel ih =>
   intro listed a w inv hfree hr hy hS H
   refine ⟨fun h => (by rw [h] at hr;cases hr),fun j hj => ?_⟩
   by_cases hji : j = i
   · subst hji;exact hy.wpOp hi hS ⟨fun _ => hS,H⟩
   · have hun:=(mem_ready.1 hr).1
     have hjn : j < n:=by
       rcases Nat.lt_or_ge j n with h | h
       · exact h
       · exact absurd hj (tail_waits hs hc hn inv _ i rfl hin hun j h)
     have h1:=H.2 j (ready_mono hj hji)
     obtain ⟨hjun,oj,hoj,hall⟩:=mem_ready.1 hj
     have hnot : ∀ e ∈ oj.after,Region.binds md e = true → e.on ≠ i:=fun e he hb heq => by
       have h1:=hall e he hb
       rw [heq,getD_both hun] at h1
       cases h1
     have h2:=wpOp_putIf hoj (hfree j oj hoj hji hjun hnot) (fun cs b => hsel i oi cs b hi) (fun cs b => hsel j oj cs b hoj) hQ hy h1
     have hfree' : ∀ k ok, ops[k]? = some ok → k ≠ i → (listed.setIfInBounds j true).getD k true = false →
         (∀ e ∈ ok.after,Region.binds md e = true → e.on ≠ i) → oi.apart ops ok = true:=fun k ok hk hki hun hno => by
       refine hfree k ok hk hki ?_ hno
       by_cases hjk : j = k
       · subst hjk;exact hjun
       · rw [getD_set_ne true hjk] at hun;exact hun
     refine wpOp_mono (fun a' w' h3 => ⟨fun _ => h3.2.1 hjn,ih (listed.setIfInBounds j true) a' w' (inv.set hj hjn) hfree' (ready_mono hr (Ne.symm hji)) h3.1 (h3.2.1 hjn) ?_⟩) h2
     rw [Array.setIfInBounds_comm _ _ hji]
     exact h3.2.2
def WE (P : Program) (md : Region.Mode) (ops : Array Oper) (n : Nat) (Q : Exit → Act → World → Prop) (S : World → Prop) (fuel : Nat) (listed : Array Bool) (a : Act) (w : World) : Prop :=
 HeadInv md ops n listed → wpAnyE P md ops n Q S fuel listed a w
theorem get_drop {l : List Oper} {i : Nat} {oi : Oper} {post : List Oper} (hd : l.drop i = oi :: post) : (l.toArray)[i]? = some oi:=by
 have h : (l.drop i)[0]? = some oi:=by rw [hd];rfl
 rw [List.getElem?_drop] at h
 simpa using h
theorem WE_take {l : List Oper} (i : Nat) {oi : Oper} {post : List Oper} {v : Value} {fuel : Nat} {listed : Array Bool} {a : Act} {w : World} (hd : l.drop i = oi :: post)
   (hl : (lastB md l.toArray n && Region.noSelect l.toArray && Region.free md l.toArray listed i && (Region.ready md l.toArray listed).contains i && decide (i < n)) = true)
   (hQ : ∀ c a w,Q (.panic c) (a.put oi.dst v) w → Q (.panic c) a w) (hy : YieldsIf P l.toArray S oi v a) (hS : S w)
   (h : WE P md l.toArray n Q S fuel (listed.setIfInBounds i true) (a.put oi.dst v) w) : WE P md l.toArray n Q S (fuel + 1) listed a w:=fun inv => by
 simp only [Bool.and_eq_true,decide_eq_true_eq] at hl
 obtain ⟨⟨⟨⟨hl,hs⟩,hf⟩,hr⟩,hin⟩:=hl
 have hi:=get_drop hd
 have hr' : i ∈ Region.ready md l.toArray listed:=by simpa using hr
 exact wpAnyE_first hi (Region.noSelect_spec hs) hl hin hQ fuel listed a w inv (Region.free_spec hi hf) hr' hy hS (h (inv.set hr' hin))
theorem WE_step {l : List Oper} (i : Nat) {o : Oper} {post : List Oper} {fuel : Nat} {listed : Array Bool} {a : Act} {w : World} (hd : l.drop i = o :: post)
   (hr : (decide (Region.ready md l.toArray listed = [i]) && decide (i < n)) = true)
   (h : ∀ K' : Act → World → Prop,Shut (∀ a w,S w → (S w → WE P md l.toArray n Q S fuel (listed.setIfInBounds i true) a w) → K' a w) → if Region.wanted o (yielded l.toArray a.tmps) = true then Oper.wp P o a w K' Q else K' (a.put o.dst undef) w) :
   WE P md l.toArray n Q S (fuel + 1) listed a w:=fun inv => by
 simp only [Bool.and_eq_true,decide_eq_true_eq] at hr
 obtain ⟨hr,hin⟩:=hr
 refine ⟨fun h0 => (by rw [hr] at h0;cases h0),fun j hj => ?_⟩
 obtain rfl : j = i:=by rw [hr] at hj;simpa using hj
 exact wpOp_step (get_drop hd) (fun K' hK => h K' (fun a w hS hW => hK a w ⟨fun _ => hS,hW hS (inv.set hj hin)⟩))
theorem WE_last {l : List Oper} {o : Oper} {post : List Oper} {fuel : Nat} {listed : Array Bool} {a : Act} {w : World} (hd : l.drop n = o :: post)
   (hr : (decide (Region.ready md l.toArray listed = [n]) && decide (Region.ready md l.toArray (listed.setIfInBounds n true) = [])) = true)
   (h : ∀ K' : Act → World → Prop,Shut (∀ a w,Q .normal a w → K' a w) → if Region.wanted o (yielded l.toArray a.tmps) = true then Oper.wp P o a w K' Q else K' (a.put o.dst undef) w) :
   WE P md l.toArray n Q S (fuel + 1) listed a w:=fun _ => by
 simp only [Bool.and_eq_true,decide_eq_true_eq] at hr
 obtain ⟨hr,hr2⟩:=hr
 refine ⟨fun h0 => (by rw [hr] at h0;cases h0),fun j hj => ?_⟩
 obtain rfl : j = n:=by rw [hr] at hj;simpa using hj
 refine wpOp_step (get_drop hd) (fun K' hK => h K' (fun a w hW => hK a w ⟨fun h => absurd h (Nat.lt_irrefl _),?_⟩))
 cases fuel with
 | zero => exact ⟨hr2,hW⟩
 | succ f => exact ⟨fun _ => hW,fun k hk => by rw [hr2] at hk;cases hk⟩
theorem wp_region_E {id : Nat} {a : Act} {w : World} (n : Nat) (S : World → Prop) (hm : P.follows .mixedOrders = true) (hS : S w.drew)
   (h : S w.drew → WE P .any ops n Q S ops.size (Array.replicate ops.size false) a w.drew) : (Code.region id ops true).wp P Q a w:=by
 refine wp_region_any hm (wpAny_of_E (n:=n) (S:=S) _ _ _ _ (h hS ⟨by simp,fun j oj _ hl => (by rw [getD_replicate_false] at hl;cases hl),fun t _ ht => getD_in (by simpa using ht) (getD_replicate_false _ _)⟩))
end
end Go.Df
namespace Go.Df
open Go
section
variable {P : Program} {Q : Exit → Act → World → Prop} {md : Region.Mode} {S : World → Prop} {n : Nat}
theorem WE_tk {l : List Oper} (i : Nat) {oi : Oper} {post : List Oper} {v : Value} {fuel : Nat} {listed l' : Array Bool} {a a' : Act} {w : World} (h : WE P md l.toArray n Q S fuel l' a' w) (hd : l.drop i = oi :: post:=by rfl) (hl : (lastB md l.toArray n && Region.noSelect l.toArray && Region.free md l.toArray listed i && (Region.ready md l.toArray listed).contains i && decide (i < n)) = true:=by kernel_rfl) (hQ : ∀ c a w,Q (.panic c) (a.put oi.dst v) w → Q (.panic c) a w:=by exact fun _ _ _ h => h) (hw : Region.wanted oi (yielded l.toArray a.tmps) = true:=by rfl) (hy : ∀ w9,S w9 → (execOp a.eval oi).run P w9 = .ok (.value v) w9:=by intro w9 hSw;(try dsimp only at hSw);go_simp;try with_reducible rfl) (hS : S w:=by assumption) (hl' : listed.setIfInBounds i true = l':=by first | (simp only [Act.put,List.setIfInBounds_toArray,List.set_cons_zero,List.set_cons_succ];done) | (simp only [Act.put,List.setIfInBounds_toArray,List.set_cons_zero,List.set_cons_succ];rfl) | rfl) (ha' : a.put oi.dst v = a':=by first | (simp only [Act.put,List.setIfInBounds_toArray,List.set_cons_zero,List.set_cons_succ];done) | (simp only [Act.put,List.setIfInBounds_toArray,List.set_cons_zero,List.set_cons_succ];rfl) | rfl) : WE P md l.toArray n Q S (fuel + 1) listed a w:=by
 subst hl' ha'
 exact WE_take i hd hl hQ (.inl ⟨hw,hy⟩) hS h
theorem WE_tu {l : List Oper} (i : Nat) {oi : Oper} {post : List Oper} {fuel : Nat} {listed l' : Array Bool} {a a' : Act} {w : World} (h : WE P md l.toArray n Q S fuel l' a' w) (hd : l.drop i = oi :: post:=by rfl) (hl : (lastB md l.toArray n && Region.noSelect l.toArray && Region.free md l.toArray listed i && (Region.ready md l.toArray listed).contains i && decide (i < n)) = true:=by kernel_rfl) (hQ : ∀ c a w,Q (.panic c) (a.put oi.dst undef) w → Q (.panic c) a w:=by exact fun _ _ _ h => h) (hw : Region.wanted oi (yielded l.toArray a.tmps) = false:=by rfl) (hS : S w:=by assumption) (hl' : listed.setIfInBounds i true = l':=by first | (simp only [Act.put,List.setIfInBounds_toArray,List.set_cons_zero,List.set_cons_succ];done) | (simp only [Act.put,List.setIfInBounds_toArray,List.set_cons_zero,List.set_cons_succ];rfl) | rfl) (ha' : a.put oi.dst undef = a':=by first | (simp only [Act.put,List.setIfInBounds_toArray,List.set_cons_zero,List.set_cons_succ];done) | (simp only [Act.put,List.setIfInBounds_toArray,List.set_cons_zero,List.set_cons_succ];rfl) | rfl) : WE P md l.toArray n Q S (fuel + 1) listed a w:=by
 subst hl' ha'
 exact WE_take i hd hl hQ (.inr ⟨hw,rfl⟩) hS h
theorem WE_put {l : List Oper} {fuel : Nat} {listed l' : Array Bool} {a a' : Act} {w : World} (h : WE P md l.toArray n Q S fuel l' a' w) (hl' : listed = l':=by first | (simp only [Act.put,List.setIfInBounds_toArray,List.set_cons_zero,List.set_cons_succ];done) | (simp only [Act.put,List.setIfInBounds_toArray,List.set_cons_zero,List.set_cons_succ];rfl) | rfl) (ha' : a = a':=by first | (simp only [Act.put,List.setIfInBounds_toArray,List.set_cons_zero,List.set_cons_succ];done) | (simp only [Act.put,List.setIfInBounds_toArray,List.set_cons_zero,List.set_cons_succ];rfl) | rfl) : WE P md l.toArray n Q S fuel listed a w:=by
 subst hl' ha'
 exact h
end
end Go.Df
namespace Go.Df
open Go.RowKit
namespace Sp
structure Xp where
 i : Int
 o : Int
 k : Int
 b : Int
 c : Int
deriving DecidableEq
structure Vs where
 n : Int
 f : Int
 k : Int
 v : Int
deriving DecidableEq
def xerr (k b c : Int) : Int:=if k < 0 ∨ 4 < k then 12 else if (b ≠ 0 ∧ k ≠ 2 ∧ k ≠ 3) ∨ (c ≠ 0 ∧ k ≠ 1 ∧ k ≠ 3) then 1 else 0
def verr (k n : Int) : Int:=if k < 0 ∨ 2 < k then 12 else if n ≠ 0 ∧ k ≠ 1 then 1 else 0
def gx (l : List Xp) (i : Nat) : Xp:=l.getD i ⟨0,0,0,0,0⟩
def gs (l : List Vs) (i : Nat) : Vs:=l.getD i ⟨0,0,0,0⟩
theorem gx_lt {l : List Xp} {i : Nat} (h : i < l.length) : gx l i = l[i]:=by simp [gx,h]
theorem gs_lt {l : List Vs} {i : Nat} (h : i < l.length) : gs l i = l[i]:=by simp [gs,h]
def lessP (a b : Xp) : Bool:=if a.i ≠ b.i then decide (a.i < b.i) else decide (a.o < b.o)
def pairErr (F : Int) (l : List Xp) (j : Nat) : Int :=
 if (gx l j).i < 0 ∨ F ≤ (gx l j).i ∨ (gx l j).o < 0 ∨ F ≤ (gx l j).o then 4
 else if 0 < j ∧ lessP (gx l (j - 1)) (gx l j) = false then 13 else xerr (gx l j).k (gx l j).b (gx l j).c
def pairsErr (F : Int) (l : List Xp) : Int :=
 if 8192 < l.length then 3 else if fe (pairErr F l) 0 l.length ≠ 0 then fe (pairErr F l) 0 l.length else if l.length = 0 ∨ gx l 0 ≠ ⟨0,0,2,0,0⟩ then 1 else 0
theorem pairs_hit {F : Int} {l : List Xp} {e : Int} {j : Nat} (h1 : l.length ≤ 8192) (h : ∀ x,x < j → pairErr F l x = 0) (hj : j < l.length) (he : pairErr F l j = e) (h0 : e ≠ 0) : pairsErr F l = e:=by
 unfold pairsErr
 rw [if_neg (by omega),fe_hit h hj he h0,if_pos h0]
theorem pairs_end {F : Int} {l : List Xp} (h1 : l.length ≤ 8192) (h : ∀ x,x < l.length → pairErr F l x = 0) : pairsErr F l = if l.length = 0 ∨ gx l 0 ≠ ⟨0,0,2,0,0⟩ then 1 else 0:=by
 unfold pairsErr
 rw [if_neg (by omega),fe_ok l.length 0 (fun i _ hi => h i (by omega)),if_neg (by simp)]
end Sp
def Xps (w : World) (A : Option Addr) (n : Nat) (l : List Sp.Xp) : Prop :=
 l.length = n ∧ (0 < n → ∃ b o,A = some ⟨b,o,none⟩ ∧ b < w.heap.size ∧ ∀ i,i < n → w.cell? ⟨b,o + i * 5,none⟩ = some (.int .i64 (Sp.gx l i).i) ∧ w.cell? ⟨b,o + i * 5 + 1,none⟩ = some (.int .i64 (Sp.gx l i).o) ∧ w.cell? ⟨b,o + i * 5 + 2,none⟩ = some (.int .i64 (Sp.gx l i).k) ∧ w.cell? ⟨b,o + i * 5 + 3,none⟩ = some (.int .i64 (Sp.gx l i).b) ∧ w.cell? ⟨b,o + i * 5 + 4,none⟩ = some (.int .i64 (Sp.gx l i).c))
theorem Xps.later {w w' : World} {A : Option Addr} {n : Nat} {l : List Sp.Xp} (h : Xps w A n l) (hb : Below w.heap.size w w') : Xps w' A n l :=
 ⟨h.1,fun hn => by
   obtain ⟨b,o,e,hl,hc⟩:=h.2 hn
   exact ⟨b,o,e,Nat.lt_of_lt_of_le hl hb.size,fun i hi => ⟨(hb.cell (p:=⟨b,_,none⟩) hl).trans (hc i hi).1,(hb.cell (p:=⟨b,_,none⟩) hl).trans (hc i hi).2.1,(hb.cell (p:=⟨b,_,none⟩) hl).trans (hc i hi).2.2.1,(hb.cell (p:=⟨b,_,none⟩) hl).trans (hc i hi).2.2.2.1,(hb.cell (p:=⟨b,_,none⟩) hl).trans (hc i hi).2.2.2.2⟩⟩⟩
end Go.Df
namespace Go.Proofs.YtincpmdldpakkaaGreatDoor
open Go.RowKit Go.Df
attribute [local go_sem ↓] Go.wp_at_zero Go.wp_at_succ
set_option maxHeartbeats 1000000 in
theorem xcheck_any (k b c : Int) (w : World) :
   Calls Tryz.prog 128 #[.agg #[.int .i64 k,.int .i64 b,.int .i64 c]] w fun e w' => e = .returned (.int .i64 (Sp.xerr k b c)) ∧ Below w.heap.size w w':=by
 go_enter Tryz.func128,Tryz.ntmps128
 go_wp2
 all_goals (go_returns;refine ⟨ret_int ?_,by go_grown⟩;unfold Sp.xerr;(repeat' split) <;> first | rfl | omega | (exfalso;omega) | (simp_all;done) | (simp_all;omega) | (exfalso;simp_all;omega))
set_option maxHeartbeats 1000000 in
theorem rxcheck_any (k b c : Int) (w : World) :
   Calls Tryz.prog 71 #[.agg #[.int .i64 k,.int .i64 b,.int .i64 c]] w fun e w' => e = .returned (.int .i64 (Sp.xerr k b c)) ∧ Below w.heap.size w w':=by
 go_enter Tryz.func71,Tryz.ntmps71
 go_wp2
 all_goals (go_returns;refine ⟨ret_int ?_,by go_grown⟩;unfold Sp.xerr;(repeat' split) <;> first | rfl | omega | (exfalso;omega) | (simp_all;done) | (simp_all;omega) | (exfalso;simp_all;omega))
set_option maxHeartbeats 1000000 in
theorem vcheckv_any (k n : Int) (w : World) :
   Calls Tryz.prog 74 #[.agg #[.int .i64 k,.int .i64 n]] w fun e w' => e = .returned (.int .i64 (Sp.verr k n)) ∧ Below w.heap.size w w':=by
 go_enter Tryz.func74,Tryz.ntmps74
 go_wp2
 all_goals (go_returns;refine ⟨ret_int ?_,by go_grown⟩;unfold Sp.verr;(repeat' split) <;> first | rfl | omega | (exfalso;omega) | (simp_all;done) | (simp_all;omega) | (exfalso;simp_all;omega))
set_option maxHeartbeats 1000000 in
theorem rvcheckv_any (k n : Int) (w : World) :
   Calls Tryz.prog 30 #[.agg #[.int .i64 k,.int .i64 n]] w fun e w' => e = .returned (.int .i64 (Sp.verr k n)) ∧ Below w.heap.size w w':=by
 go_enter Tryz.func30,Tryz.ntmps30
 go_wp2
 all_goals (go_returns;refine ⟨ret_int ?_,by go_grown⟩;unfold Sp.verr;(repeat' split) <;> first | rfl | omega | (exfalso;omega) | (simp_all;done) | (simp_all;omega) | (exfalso;simp_all;omega))
set_option maxRecDepth 100000 in
set_option maxHeartbeats 4000000 in
theorem rpairs_any (A : Option Addr) (n c : Nat) (F : Int) (l : List Sp.Xp) (w : World) (hp : Xps w A n l) :
   Calls Tryz.prog 29 #[.slice A n c,.int .i64 F] w fun e w' => e = .returned (.int .i64 (Sp.pairsErr F l)) ∧ Below w.heap.size w w':=by
 have HP:=Lib.hid hp
 have HL:=Lib.hid hp.1
 clear hp
 by_cases t1 : 8192 < n
 · have d1 : decide ((8192 : Int) < n) = true:=by simp;omega
   go_enter Tryz.func29,Tryz.ntmps29
   go_wp2_with fail
   go_ret
   exact ⟨ret_int (by unfold Sp.pairsErr;rw [HL.out,if_pos (by omega)]),Below.refl _ _⟩
 have d1 : decide ((8192 : Int) < n) = false:=by simp;omega
 have h8 : Hid (l.length ≤ 8192):=by show _ ≤ _;rw [HL.out];omega
 go_enter Tryz.func29,Tryz.ntmps29
 go_wp2_with fail
 go_loopw [5] (fun i wr => ∃ j : Nat,j ≤ n ∧ i = .int .i64 j ∧ Kept [] w wr ∧ Hid (∀ x,x < j → Sp.pairErr F l x = 0)) (fun i _ => n - (intOf i).toNat)
 case atStart => exact ⟨0,Nat.zero_le _,rfl,Kept.refl _ _,Lib.hid (fun j hj => absurd hj (by omega))⟩
 case round =>
   obtain ⟨j,hj,rfl,hkr,hno⟩:=hrel
   have hBr:=hkr.toBelow
   by_cases hlt : j < n
   · obtain ⟨b,o,rfl,hl,hc⟩:=(HP.out.later hBr).2 (by omega)
     obtain ⟨h1,h2,h3,h4,h5⟩:=hc j hlt
     have HC:=Lib.hid hc
     have LB:=Lib.hid hl
     clear hc
     obtain ⟨xi,xo,xk,xb,xc,en⟩ : ∃ xi xo xk xb xc,Sp.gx l j = ⟨xi,xo,xk,xb,xc⟩:=⟨_,_,_,_,_,rfl⟩
     rw [en] at h1 h2 h3 h4 h5
     have HE:=Lib.hid en
     clear en
     go_upto_region 7 with fail
     refine wp_named (fun V => ∃ g,wr.heap.size = g ∧ Blk V g [.int .i64 xi,.int .i64 xo,.int .i64 xk,.int .i64 xb,.int .i64 xc] ∧ Kept [] wr V) ⟨_,rfl,Blk.new _ _ _ _ rfl,(Kept.refl _ _).alloc _⟩ ?_
     rintro V ⟨g,eg,Bg,hkV⟩
     rw [eg]
     have hkw : Kept [] w V:=keptTrans hkr hkV
     have ⟨LG,CG,FG⟩:=Bg
     have hBV:=hkw.toBelow
     clear h1 h2 h3 h4 h5 eg
     have hbad : Hid (∀ e,Sp.pairErr F l j = e → e ≠ 0 → Sp.pairsErr F l = e):=fun e h1 h2 => Sp.pairs_hit h8.out hno.out (by rw [HL.out];exact hlt) h1 h2
     have hstep : Hid (Sp.pairErr F l j = 0 → ∀ x,x < j + 1 → Sp.pairErr F l x = 0):=fun h0 x hx => by
       rcases Nat.lt_or_ge x j with h9 | h9
       · exact hno.out x h9
       · obtain rfl : x = j:=by omega
         exact h0
     have HEr : Hid (Sp.pairErr F l j = if xi < 0 ∨ F ≤ xi ∨ xo < 0 ∨ F ≤ xo then 4 else if 0 < j ∧ Sp.lessP (Sp.gx l (j - 1)) ⟨xi,xo,xk,xb,xc⟩ = false then 13 else Sp.xerr xk xb xc):=by
       show _ = _
       unfold Sp.pairErr
       rw [HE.out]
     by_cases r0 : xi < 0
     · have z : decide (xi < 0) = true:=by simpa using r0
       have hE:=Lib.hid (hbad.out 4 (by rw [HEr.out,if_pos (by omega)]) (by omega))
       go_wp2_with fail
       go_ret
       exact ⟨ret_int hE.out.symm,hBV⟩
     have z0 : decide (xi < 0) = false:=by simpa using r0
     by_cases r1 : F ≤ xi
     · have z : decide (F ≤ xi) = true:=by simpa using r1
       have hE:=Lib.hid (hbad.out 4 (by rw [HEr.out,if_pos (by omega)]) (by omega))
       go_wp2_with fail
       go_ret
       exact ⟨ret_int hE.out.symm,hBV⟩
     have z1 : decide (F ≤ xi) = false:=by simpa using r1
     by_cases r2 : xo < 0
     · have z : decide (xo < 0) = true:=by simpa using r2
       have hE:=Lib.hid (hbad.out 4 (by rw [HEr.out,if_pos (by omega)]) (by omega))
       go_wp2_with fail
       go_ret
       exact ⟨ret_int hE.out.symm,hBV⟩
     have z2 : decide (xo < 0) = false:=by simpa using r2
     by_cases r3 : F ≤ xo
     · have z : decide (F ≤ xo) = true:=by simpa using r3
       have hE:=Lib.hid (hbad.out 4 (by rw [HEr.out,if_pos (by omega)]) (by omega))
       go_wp2_with fail
       go_ret
       exact ⟨ret_int hE.out.symm,hBV⟩
     have z3 : decide (F ≤ xo) = false:=by simpa using r3
     have HEy : Hid (Sp.pairErr F l j = if 0 < j ∧ Sp.lessP (Sp.gx l (j - 1)) ⟨xi,xo,xk,xb,xc⟩ = false then 13 else Sp.xerr xk xb xc):=by
       show _ = _
       rw [HEr.out,if_neg (by omega)]
     clear HEr r0 r1 r2 r3
     by_cases hj0 : j = 0
     · have y1 : decide (0 < j) = false:=by simp;omega
       have y2 : decide ((0 : Int) < (j : Int)) = false:=by simp;omega
       have HEz : Hid (Sp.pairErr F l j = Sp.xerr xk xb xc):=by show _ = _;rw [HEy.out,if_neg (by omega)]
       clear hj0
       go_upto_region 9 with fail
       go_quiet (fail)
       go_wp2_with fail
       refine (rxcheck_any xk xb xc _).mono ?_
       rintro e w5 ⟨rfl,hb5⟩
       have hk5 : Kept [] w w5:=(hkw.drewN _).call hb5
       by_cases hx0 : Sp.xerr xk xb xc = 0
       · rw [hx0]
         have hfin:=Lib.hid (hstep.out (by rw [HEz.out,hx0]))
         clear hx0
         go_wp2_with fail
         exact ⟨⟨j + 1,by omega,by go_num,hk5,hfin⟩,by simp [intOf];omega⟩
       · have hE:=Lib.hid (hbad.out _ HEz.out hx0)
         have hx0' : (Sp.xerr xk xb xc != 0) = true:=by simpa using hx0
         clear hx0
         go_wp2_with fail
         go_ret
         exact ⟨ret_int hE.out.symm,hk5.toBelow⟩
     have y1 : decide (0 < j) = true:=by simp;omega
     have y2 : decide ((0 : Int) < (j : Int)) = true:=by simp;omega
     have y3 : IntKind.i64.wrap ((j : Int) - 1) = (j : Int) - 1:=IntWalk.i64_in _ (by omega)
     have y4 : (0 : Int) ≤ (j : Int) - 1:=by omega
     have y5 : ((j : Int) - 1).toNat = j - 1:=by omega
     have y6 : (j : Int) - 1 < (n : Int):=by omega
     have y7 : 0 < j:=by omega
     have y8 : 1 ≤ j:=by omega
     have y9 : (1 : Int) ≤ (j : Int):=by omega
     have y10 : j ≤ n:=by omega
     have y11 : j < n + 1:=by omega
     have y12 : (j : Int) < (n : Int) + 1:=by omega
     have y13 : (j : Int) ≤ (n : Int):=by omega
     obtain ⟨p1,p2,-,-,-⟩:=HC.out (j - 1) (by omega)
     obtain ⟨pi,po,pk,pb,pc,ep⟩ : ∃ pi po pk pb pc,Sp.gx l (j - 1) = ⟨pi,po,pk,pb,pc⟩:=⟨_,_,_,_,_,rfl⟩
     rw [ep] at p1 p2
     have q1 : V.cell? ⟨b,o + (j - 1) * 5,none⟩ = some (.int .i64 pi):=(hkV.cell b _ LB.out (by simp)).trans p1
     have q2 : V.cell? ⟨b,o + (j - 1) * 5 + 1,none⟩ = some (.int .i64 po):=(hkV.cell b _ LB.out (by simp)).trans p2
     have hbV : b < V.heap.size:=Nat.lt_of_lt_of_le LB.out hkV.size
     have HEx : Hid (Sp.pairErr F l j = if Sp.lessP ⟨pi,po,pk,pb,pc⟩ ⟨xi,xo,xk,xb,xc⟩ = false then 13 else Sp.xerr xk xb xc):=by
       show _ = _
       rw [HEy.out,ep]
       simp [y7]
     clear p1 p2 ep hj0
     by_cases s1 : xi < pi
     · have u1 : decide (xi < pi) = true:=by simpa using s1
       have hE:=Lib.hid (hbad.out 13 (by rw [HEx.out,if_pos (by unfold Sp.lessP;simp only;rw [if_pos (by omega)];simp;omega)]) (by omega))
       clear s1
       go_upto_region 9 with fail
       go_quiet (fail)
       go_wp2_with fail
       go_ret
       exact ⟨ret_int hE.out.symm,(hkw.drewN _).toBelow⟩
     have u1 : decide (xi < pi) = false:=by simpa using s1
     by_cases s2 : pi = xi
     · have u2 : (pi == xi) = true:=by simpa using s2
       by_cases s3 : xo ≤ po
       · have u3 : decide (xo ≤ po) = true:=by simpa using s3
         have hE:=Lib.hid (hbad.out 13 (by rw [HEx.out,if_pos (by unfold Sp.lessP;simp only;rw [if_neg (by omega)];simp;omega)]) (by omega))
         clear s1 s2
         go_upto_region 9 with fail
         go_quiet (fail)
         go_wp2_with fail
         go_ret
         exact ⟨ret_int hE.out.symm,(hkw.drewN _).toBelow⟩
       · have u3 : decide (xo ≤ po) = false:=by simpa using s3
         have HEz : Hid (Sp.pairErr F l j = Sp.xerr xk xb xc):=by show _ = _;rw [HEx.out,if_neg (by unfold Sp.lessP;simp only;rw [if_neg (by omega)];simp;omega)]
         clear s1 s2
         go_upto_region 9 with fail
         go_quiet (fail)
         go_wp2_with fail
         refine (rxcheck_any xk xb xc _).mono ?_
         rintro e w5 ⟨rfl,hb5⟩
         have hk5 : Kept [] w w5:=(hkw.drewN _).call hb5
         by_cases hx0 : Sp.xerr xk xb xc = 0
         · rw [hx0]
           have hfin:=Lib.hid (hstep.out (by rw [HEz.out,hx0]))
           clear hx0
           go_wp2_with fail
           exact ⟨⟨j + 1,by omega,by go_num,hk5,hfin⟩,by simp [intOf];omega⟩
         · have hE:=Lib.hid (hbad.out _ HEz.out hx0)
           have hx0' : (Sp.xerr xk xb xc != 0) = true:=by simpa using hx0
           clear hx0
           go_wp2_with fail
           go_ret
           exact ⟨ret_int hE.out.symm,hk5.toBelow⟩
     · have u2 : (pi == xi) = false:=by simpa using s2
       have HEz : Hid (Sp.pairErr F l j = Sp.xerr xk xb xc):=by show _ = _;rw [HEx.out,if_neg (by unfold Sp.lessP;simp only;rw [if_pos (by omega)];simp;omega)]
       clear s1 s2
       go_upto_region 9 with fail
       go_quiet (fail)
       go_wp2_with fail
       refine (rxcheck_any xk xb xc _).mono ?_
       rintro e w5 ⟨rfl,hb5⟩
       have hk5 : Kept [] w w5:=(hkw.drewN _).call hb5
       by_cases hx0 : Sp.xerr xk xb xc = 0
       · rw [hx0]
         have hfin:=Lib.hid (hstep.out (by rw [HEz.out,hx0]))
         clear hx0
         go_wp2_with fail
         exact ⟨⟨j + 1,by omega,by go_num,hk5,hfin⟩,by simp [intOf];omega⟩
       · have hE:=Lib.hid (hbad.out _ HEz.out hx0)
         have hx0' : (Sp.xerr xk xb xc != 0) = true:=by simpa using hx0
         clear hx0
         go_wp2_with fail
         go_ret
         exact ⟨ret_int hE.out.symm,hk5.toBelow⟩
   · obtain rfl : j = n:=by omega
     have hall : Hid (∀ x,x < l.length → Sp.pairErr F l x = 0):=fun x hx => hno.out x (by rw [HL.out] at hx;exact hx)
     have HZ:=Lib.hid (Sp.pairs_end h8.out hall.out)
     clear hno hlt
     by_cases hn0 : j = 0
     · have k1 : ((j : Int) == 0) = true:=by simp;omega
       have k2 : (j == 0) = true:=by simp;omega
       have hE : Hid (Sp.pairsErr F l = 1):=by show _ = _;rw [HZ.out,if_pos (.inl (by rw [HL.out];exact hn0))]
       have HN0:=Lib.hid hn0
       clear hn0
       go_wp2_with fail
       go_ret
       exact ⟨ret_int hE.out.symm,hBr⟩
     · have k1 : ((j : Int) == 0) = false:=by simp;omega
       have k2 : (j == 0) = false:=by simp;omega
       obtain ⟨b,o,rfl,hl,hc⟩:=(HP.out.later hBr).2 (by omega)
       obtain ⟨h1,h2,h3,h4,h5⟩:=hc 0 (by omega)
       simp only [Nat.zero_mul,Nat.add_zero] at h1 h2 h3 h4 h5
       obtain ⟨xi,xo,xk,xb,xc,en⟩ : ∃ xi xo xk xb xc,Sp.gx l 0 = ⟨xi,xo,xk,xb,xc⟩:=⟨_,_,_,_,_,rfl⟩
       rw [en] at h1 h2 h3 h4 h5
       have hjp : 0 < j:=by omega
       have HE : Hid (Sp.pairsErr F l = if (⟨xi,xo,xk,xb,xc⟩ : Sp.Xp) ≠ ⟨0,0,2,0,0⟩ then 1 else 0):=by
         show _ = _
         rw [HZ.out,en,HL.out]
         simp [hn0]
       clear en hc hn0
       go_wp2_with fail
       all_goals
         go_ret
         refine ⟨ret_int ?_,hBr⟩
         rw [HE.out]
         clear h1 h2 h3 h4 h5
         first | (simp_all;done) | (rw [if_pos (by intro hh;cases hh;simp_all)]) | (rw [if_neg (by simp_all)])
end Go.Proofs.YtincpmdldpakkaaGreatDoor
namespace Go.Df
open Go.RowKit
structure Gr (w : World) (A1 : Option Addr) (n1 : Nat) (A2 : Option Addr) (n2 : Nat) (ns : List Sp.Nd) (es : List Sp.Ed) : Prop where
 nd : Nds w A1 n1 ns
 ed : Eds w A2 n2 es
 wn : ∀ j,j < n1 → (Lit.int .i64 (gn ns j).f).wf = true
 we : ∀ j,j < n2 → (Lit.int .i64 (ge es j).a).wf = true ∧ (Lit.int .i64 (ge es j).b).wf = true
theorem Gr.later {w w' : World} {A1 A2 : Option Addr} {n1 n2 : Nat} {ns : List Sp.Nd} {es : List Sp.Ed} (h : Gr w A1 n1 A2 n2 ns es) (hb : Below w.heap.size w w') : Gr w' A1 n1 A2 n2 ns es:=⟨h.nd.later hb,h.ed.later hb,h.wn,h.we⟩
theorem Gr.kept {w w' : World} {A1 A2 : Option Addr} {n1 n2 : Nat} {ns : List Sp.Nd} {es : List Sp.Ed} (h : Gr w A1 n1 A2 n2 ns es) (hb : Kept [] w w') : Gr w' A1 n1 A2 n2 ns es:=h.later hb.toBelow
end Go.Df
namespace Go.Proofs.YtincpmdldpakkaaGreatDoor
open Go.RowKit Go.Df
theorem post_named {P : Program} {f : Func} {Q : Ending → World → Prop} {e : Exit} {a : Act} {w : World} (S : World → Prop) (h0 : S w) (h : ∀ X,S X → bodyPost P f Q e a X) : bodyPost P f Q e a w:=h w h0
theorem own_keptK {X : List Nat} {w w1 : World} {base : Nat} {e : TypeId} {k n : Nat} {v : Value} {xs : List Value} (h : w.ownsRow base e k v n xs) (hk : Kept X w w1) (hX : ∀ g,v.ownBlock = some g → g ∉ X) : w1.ownsRow base e k v n xs:=by
 refine ⟨h.1,?_⟩
 rcases h.2 with h0 | ⟨g,cap,cur,rfl,hb,hh,rest⟩
 · exact .inl h0
 · refine .inr ⟨g,cap,cur,rfl,hb,?_,rest⟩
   rw [hk.block g (by
     rcases Nat.lt_or_ge g w.heap.size with h1 | h1
     · exact h1
     · rw [Array.getElem?_eq_none h1] at hh;cases hh) (hX g rfl)]
   exact hh
end Go.Proofs.YtincpmdldpakkaaGreatDoor
namespace Go.Df
open Go.RowKit Go.Maps Go.ChangeMaps
def MapV (P : Program) (k e : TypeId) (z : Lit) (w : World) (b n : Nat) (f : Value → Lit) : Prop :=
 ∃ D : DataW Unit,w.ownsMap P k (plainElem P e) b n D ∧ ∀ key kl,keyOf P k key = some kl → D.atKey kl (.lit z) = .lit (f key)
theorem MapV.made (P : Program) (k e : TypeId) (z : Lit) (w : World) (b : Nat) (hb : b = w.heap.size) : MapV P k e z (w.alloc (.map #[] 0)) b 0 (fun _ => z):=by
 subst hb
 exact ⟨_,World.ownsMap_made w P k _,fun _ _ _ => rfl⟩
theorem MapV.mono {P : Program} {k e : TypeId} {z : Lit} {w : World} {b n n' : Nat} {f : Value → Lit} (h : MapV P k e z w b n f) (hn : n ≤ n') : MapV P k e z w b n' f :=
 let ⟨D,h1,h2⟩:=h;⟨D,h1.mono hn,h2⟩
theorem MapV.lt {P : Program} {k e : TypeId} {z : Lit} {w : World} {b n : Nat} {f : Value → Lit} (h : MapV P k e z w b n f) : b < w.heap.size :=
 let ⟨_,h1,_⟩:=h;h1.lt
theorem MapV.ext {P : Program} {k e : TypeId} {z : Lit} {w : World} {b n : Nat} {f g : Value → Lit} (h : MapV P k e z w b n f) (hg : ∀ key kl,keyOf P k key = some kl → f key = g key) : MapV P k e z w b n g :=
 let ⟨D,h1,h2⟩:=h;⟨D,h1,fun key kl hk => by rw [h2 key kl hk,hg key kl hk]⟩
theorem MapV.kept {P : Program} {k e : TypeId} {z : Lit} {w w' : World} {b n : Nat} {f : Value → Lit} {X : List Nat} (h : MapV P k e z w b n f) (hk : Kept X w w') (hX : b ∉ X) : MapV P k e z w' b n f:=by
 have hlt:=h.lt
 obtain ⟨D,⟨es,clock,h1,h2⟩,h3⟩:=h
 exact ⟨D,⟨es,clock,(hk.block b hlt hX).trans h1,h2⟩,h3⟩
theorem MapV.look_int {P : Program} {k e t : TypeId} {w : World} {b n : Nat} {f : Value → Lit} (h : MapV P k e (.int .i64 0) w b n f) (K : Keyed P k) (ht : P.underlying t = some (.map k e)) (he : P.underlying e = some (.int .i64)) (hz : (zeroValue e).run P w = .ok (.int .i64 0) w)
   {key : Value} {kl : Lit} (hkey : keyOf P k key = some kl) {c : Int} (hc : f key = .int .i64 c) : (Instr.lookup t (.map (some b)) key false).run P w = .ok (.int .i64 c) w:=by
 obtain ⟨D,h1,h2⟩:=h
 obtain ⟨c',hrun,hat,-⟩:=h1.lookup_int K ht he hz hkey
 have h3:=h2 key kl hkey
 rw [hat,hc] at h3
 cases h3
 exact hrun
theorem plainElem_bool_inv {P : Program} {e : TypeId} (he : P.underlying e = some .bool) {v : Value} {z : DataW Unit × List MemPlace} (h : plainElem P e v = some z) : ∃ a,v = .bool a ∧ z = (.lit (.bool a),[]):=by
 unfold plainElem at h
 rw [he] at h
 split at h
 · cases h;exact ⟨_,rfl,rfl⟩
 all_goals simp_all
theorem MapV.look_bool {P : Program} {k e t : TypeId} {w : World} {b n : Nat} {f : Value → Lit} (h : MapV P k e (.bool false) w b n f) (K : Keyed P k) (ht : P.underlying t = some (.map k e)) (he : P.underlying e = some .bool) (hz : (zeroValue e).run P w = .ok (.bool false) w)
   {key : Value} {kl : Lit} (hkey : keyOf P k key = some kl) {c : Bool} (hc : f key = .bool c) : (Instr.lookup t (.map (some b)) key false).run P w = .ok (.bool c) w:=by
 obtain ⟨D,h1,h2⟩:=h
 obtain ⟨v,ps,hrun,hv⟩:=h1.lookup K ht hz (plainElem_bool he false) hkey
 obtain ⟨a,rfl,ha⟩:=plainElem_bool_inv he hv
 have h3:=h2 key kl hkey
 simp only [Prod.mk.injEq] at ha
 rw [ha.1,hc] at h3
 cases h3
 exact hrun
theorem MapV.store {P : Program} {k e t : TypeId} {z : Lit} {w : World} {b n : Nat} {f : Value → Lit} (h : MapV P k e z w b n f) (K : Keyed P k) (ht : P.underlying t = some (.map k e)) (hn : n < maxLen)
   {key val : Value} {kl d : Lit} (hkey : keyOf P k key = some kl) (hval : plainElem (H:=Unit) P e val = some (.lit d,[])) (g : Value → Lit) (g1 : g key = d) (g2 : ∀ x,x ≠ key → g x = f x) :
   ∃ w',(Instr.mapUpdate t (.map (some b)) key val).run P w = .ok () w' ∧ MapV P k e z w' b (n + 1) g ∧ Kept [b] w w':=by
 obtain ⟨D,h1,h2⟩:=h
 have hm:=h1.isMap
 obtain ⟨w',hrun,h3,hg⟩:=h1.update K ht hn hkey hval
 refine ⟨w',hrun,⟨_,h3,fun key' kl' hk' => ?_⟩,⟨hg.1,hg.2,hg.3,hg.4,fun j hj hx => hg.5 j hj (by simp at hx;intro hh;exact hx (by simpa using hh))⟩⟩
 by_cases hkk : key' = key
 · subst hkk
   obtain rfl : kl' = kl:=by rw [hkey] at hk';exact (Option.some.inj hk').symm
   rw [atKey_put_same hm (K.key hkey),g1]
 · have hne : kl' ≠ kl:=fun hh => hkk (K.inj (by rw [← hh];exact hk') hkey)
   rw [atKey_put_other hne,g2 _ hkk]
   exact h2 key' kl' hk'
theorem wpList_store_map {P : Program} (w : World) {ops : Array Oper} {rest : List Oper} {o : Oper} {a : Act} {Q : Exit → Act → World → Prop}
   (hg : o.guard = none) (m x v : Operand) (t : TypeId) (hop : o.op = Op.mapUpdate t m x v)
   (k e : TypeId) (K : Keyed P k) (ht : P.underlying t = some (.map k e)) (z : Lit) (b n : Nat) (f : Value → Lit)
   (hm : a.eval m = .map (some b)) (hown : MapV P k e z w b n f) (hn : n < maxLen) (key val : Value) (kl d : Lit) (hx : a.eval x = key) (hv : a.eval v = val) (hkey : keyOf P k key = some kl)
   (hval : plainElem (H:=Unit) P e val = some (.lit d,[])) (g : Value → Lit) (g1 : g key = d) (g2 : ∀ x,x ≠ key → g x = f x)
   (hK : ∀ w',MapV P k e z w' b (n + 1) g → Kept [b] w w' → wpList P ops Q rest (a.put o.dst undef) w') :
   wpList P ops Q (o :: rest) a w:=by
 refine wpList_plain hg fun K' hK' => ?_
 obtain ⟨w',hrun,r1,r2⟩:=hown.store K ht hn hkey hval g g1 g2
 unfold Oper.wp
 simp [execOp,hop,hm,hx,hv,hrun,Result.andThen]
 exact hK' _ _ (hK w' r1 r2)
theorem wpList_look_int {P : Program} (w : World) {ops : Array Oper} {rest : List Oper} {o : Oper} {a : Act} {Q : Exit → Act → World → Prop}
   (hg : o.guard = none) (m x : Operand) (t : TypeId) (hop : o.op = Op.lookup t m x false)
   (k e : TypeId) (K : Keyed P k) (ht : P.underlying t = some (.map k e)) (he : P.underlying e = some (.int .i64)) (hz : (zeroValue e).run P w = .ok (.int .i64 0) w) (b n : Nat) (f : Value → Lit)
   (hm : a.eval m = .map (some b)) (hown : MapV P k e (.int .i64 0) w b n f) (key : Value) (kl : Lit) (hx : a.eval x = key) (hkey : keyOf P k key = some kl) (c : Int) (hc : f key = .int .i64 c)
   (hK : wpList P ops Q rest (a.put o.dst (.int .i64 c)) w) : wpList P ops Q (o :: rest) a w:=by
 refine wpList_plain hg fun K' hK' => ?_
 have hrun:=hown.look_int K ht he hz hkey hc
 unfold Oper.wp
 simp [execOp,hop,hm,hx,hrun,Result.andThen]
 exact hK' _ _ hK
def fieldsOf (P : Program) (k : TypeId) : List (String × TypeId × Nat):=match P.underlying k with | some (.struct fs) => fs.toList.map (fun f => (f.name,f.type,f.offset)) | _ => []
theorem fieldsOf_struct {P : Program} {k : TypeId} {l : List (String × TypeId × Nat)} (h : fieldsOf P k = l) (hl : l ≠ []) : ∃ fs,P.underlying k = some (.struct fs) ∧ fs.toList.map (fun f => (f.name,f.type,f.offset)) = l:=by
 unfold fieldsOf at h
 cases hu : P.underlying k with
 | none => rw [hu] at h;exact absurd h.symm hl
 | some d =>
   rw [hu] at h
   cases d with
   | struct fs => exact ⟨fs,rfl,h⟩
   | _ => exact absurd h.symm hl
theorem keyed_struct {P : Program} {k : TypeId} {l : List (String × TypeId × Nat)} (hl : laidOutB P = true) (hrow : k < P.types.size) (hk : P.keyTypeAt 2 k = true) (h : fieldsOf P k = l) (hne : l ≠ []) : Keyed P k:=by
 obtain ⟨fs,hu,-⟩:=fieldsOf_struct h hne
 exact Keyed.of_law (deep_law_laid hl (m:=2) (by omega) hrow hk (by rw [hu]))
theorem keyOf_two {P : Program} {k e : TypeId} {x y : String} (h : fieldsOf P k = [(x, e, 0), (y, e, 1)]) (hx : x ≠ "_") (hy : y ≠ "_") (hd : P.keyType k = true) (hrow : k < P.types.size) (hc : P.cellsOf k = 2) (he : P.underlying e = some (.int .i64)) (hce : P.cellsOf e = 1)
   (a b : Int) (ha : (Lit.int .i64 a).wf = true) (hb : (Lit.int .i64 b).wf = true) : ∃ kl,keyOf P k (.agg #[.int .i64 a,.int .i64 b]) = some kl:=by
 obtain ⟨fs,hu,hf⟩:=fieldsOf_struct h (by simp)
 obtain ⟨m,hm⟩ : ∃ m,P.types.size = m + 1:=Nat.exists_eq_succ_of_ne_zero (Nat.ne_of_gt (Nat.lt_of_le_of_lt (Nat.zero_le (k : Nat)) hrow))
 have hfo : (Value.agg #[.int .i64 a,.int .i64 b]).formed P k = true:=by
   unfold Value.formed
   rw [hu,hc]
   rfl
 have hl : fs.toList.length = 2:=by simpa using congrArg List.length hf
 obtain ⟨fl⟩:=fs
 match fl,hl,hf with
 | [f0,f1],_,hf =>
   simp only [List.map_cons,List.map_nil,List.cons.injEq,Prod.mk.injEq,and_true] at hf
   obtain ⟨⟨n0,t0,o0⟩,n1,t1,o1⟩:=hf
   unfold keyOf
   rw [hu]
   simp only [hd,hfo,Bool.and_self,if_true]
   rw [hm]
   simp [Program.keyLits,hu,hc,n0,n1,t0,t1,o0,o1,hce,he,ha,hb,Value.cells,hx,hy]
end Go.Df
