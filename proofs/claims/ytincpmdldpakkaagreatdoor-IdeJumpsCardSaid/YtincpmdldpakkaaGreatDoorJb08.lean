/- Texts: Le To Tn Ma Mc. -/
import Derived.Test.YtincpmdldpakkaaGreatDoorJb01
import Derived.StillTail
import Derived.Test.YtincpmdldpakkaaGreatDoorJb07
import Derived.Test.YtincpmdldpakkaaGreatDoorJb02
import Derived.Sort.Grow
import Derived.Test.YtincpmdldpakkaaGreatDoorProg
import Derived.Shelf.SlSortCmp.WholeK
import Derived.Maps.Own
import Derived.Maps.OwnSet
import Derived.Maps.Views
import Derived.DeepKeys4
import Derived.MapViews
namespace Go.Df
open Go
section
variable {P : Program} {ops : Array Oper} {Q : Exit → Act → World → Prop} {md : Region.Mode} {S : World → Prop} {n : Nat}
def wpAnyE (P : Program) (md : Region.Mode) (ops : Array Oper) (n : Nat) (Q : Exit → Act → World → Prop) (S : World → Prop) : Nat → Array Bool → Act → World → Prop
 | 0, listed, a, w => Region.ready md ops listed = [] ∧ Q .normal a w
 | fuel + 1, listed, a, w =>
   (Region.ready md ops listed = [] → Q .normal a w) ∧
   ∀ i ∈ Region.ready md ops listed, wpOp P ops Q i (fun a' w' => (i < n → S w') ∧ wpAnyE P md ops n Q S fuel (listed.setIfInBounds i true) a' w') a w
theorem wpAny_of_E : ∀ (fuel : Nat) (listed : Array Bool) (a : Act) (w : World), wpAnyE P md ops n Q S fuel listed a w → wpAny P md ops Q fuel listed a w
 | 0, _, _, _, h => h
 | fuel + 1, _, _, _, h => ⟨h.1, fun i hi => wpOp_mono (fun a' w' h' => wpAny_of_E fuel _ a' w' h'.2) (h.2 i hi)⟩
def lastB (md : Region.Mode) (ops : Array Oper) (n : Nat) : Bool := Region.sinkB md ops n && Region.chainB md ops n && decide (n < ops.size)
theorem wpAnyE_first {i : Nat} {oi : Oper} {v : Value} (hi : ops[i]? = some oi) (hsel : ∀ (j : Nat) (o : Oper) cs b, ops[j]? = some o → o.op ≠ .select cs b)
   (hl : lastB md ops n = true) (hin : i < n)
   (hQ : ∀ c a w, Q (.panic c) (a.put oi.dst v) w → Q (.panic c) a w) :
   ∀ (fuel : Nat) (listed : Array Bool) (a : Act) (w : World), HeadInv md ops n listed →
     (∀ j oj, ops[j]? = some oj → j ≠ i → listed.getD j true = false → (∀ e ∈ oj.after, Region.binds md e = true → e.on ≠ i) → oi.apart ops oj = true) →
     i ∈ Region.ready md ops listed → YieldsIf P ops S oi v a → S w →
     wpAnyE P md ops n Q S fuel (listed.setIfInBounds i true) (a.put oi.dst v) w → wpAnyE P md ops n Q S (fuel + 1) listed a w := by
 simp only [lastB, Bool.and_eq_true, decide_eq_true_eq] at hl
 obtain ⟨⟨hs, hc⟩, hn⟩ := hl
 intro fuel
 induction fuel with
 | zero =>
   intro listed a w _ _ hr hy hS H
   refine ⟨fun h => (by rw [h] at hr; cases hr), fun j hj => ?_⟩
   by_cases hji : j = i
   · subst hji; exact hy.wpOp hi hS ⟨fun _ => hS, H⟩
   · have := ready_mono hj hji
     rw [H.1] at this
     cases this
 | succ fuel ih =>
   intro listed a w inv hfree hr hy hS H
   refine ⟨fun h => (by rw [h] at hr; cases hr), fun j hj => ?_⟩
   by_cases hji : j = i
   · subst hji; exact hy.wpOp hi hS ⟨fun _ => hS, H⟩
   · have hun := (mem_ready.1 hr).1
     have hjn : j < n := by
       rcases Nat.lt_or_ge j n with h | h
       · exact h
       · exact absurd hj (tail_waits hs hc hn inv _ i rfl hin hun j h)
     have h1 := H.2 j (ready_mono hj hji)
     obtain ⟨hjun, oj, hoj, hall⟩ := mem_ready.1 hj
     have hnot : ∀ e ∈ oj.after, Region.binds md e = true → e.on ≠ i := fun e he hb heq => by
       have h1 := hall e he hb
       rw [heq, getD_both hun] at h1
       cases h1
     have h2 := wpOp_putIf hoj (hfree j oj hoj hji hjun hnot) (fun cs b => hsel i oi cs b hi) (fun cs b => hsel j oj cs b hoj) hQ hy h1
     have hfree' : ∀ k ok, ops[k]? = some ok → k ≠ i → (listed.setIfInBounds j true).getD k true = false →
         (∀ e ∈ ok.after, Region.binds md e = true → e.on ≠ i) → oi.apart ops ok = true := fun k ok hk hki hun hno => by
       refine hfree k ok hk hki ?_ hno
       by_cases hjk : j = k
       · subst hjk; exact hjun
       · rw [getD_set_ne true hjk] at hun; exact hun
     refine wpOp_mono (fun a' w' h3 => ⟨fun _ => h3.2.1 hjn, ih (listed.setIfInBounds j true) a' w' (inv.set hj hjn) hfree' (ready_mono hr (Ne.symm hji)) h3.1 (h3.2.1 hjn) ?_⟩) h2
     rw [Array.setIfInBounds_comm _ _ hji]
     exact h3.2.2
def WE (P : Program) (md : Region.Mode) (ops : Array Oper) (n : Nat) (Q : Exit → Act → World → Prop) (S : World → Prop) (fuel : Nat) (listed : Array Bool) (a : Act) (w : World) : Prop :=
 HeadInv md ops n listed → wpAnyE P md ops n Q S fuel listed a w
theorem get_drop {l : List Oper} {i : Nat} {oi : Oper} {post : List Oper} (hd : l.drop i = oi :: post) : (l.toArray)[i]? = some oi := by
 have h : (l.drop i)[0]? = some oi := by rw [hd]; rfl
 rw [List.getElem?_drop] at h
 simpa using h
theorem WE_take {l : List Oper} (i : Nat) {oi : Oper} {post : List Oper} {v : Value} {fuel : Nat} {listed : Array Bool} {a : Act} {w : World} (hd : l.drop i = oi :: post)
   (hl : (lastB md l.toArray n && Region.noSelect l.toArray && Region.free md l.toArray listed i && (Region.ready md l.toArray listed).contains i && decide (i < n)) = true)
   (hQ : ∀ c a w, Q (.panic c) (a.put oi.dst v) w → Q (.panic c) a w) (hy : YieldsIf P l.toArray S oi v a) (hS : S w)
   (h : WE P md l.toArray n Q S fuel (listed.setIfInBounds i true) (a.put oi.dst v) w) : WE P md l.toArray n Q S (fuel + 1) listed a w := fun inv => by
 simp only [Bool.and_eq_true, decide_eq_true_eq] at hl
 obtain ⟨⟨⟨⟨hl, hs⟩, hf⟩, hr⟩, hin⟩ := hl
 have hi := get_drop hd
 have hr' : i ∈ Region.ready md l.toArray listed := by simpa using hr
 exact wpAnyE_first hi (Region.noSelect_spec hs) hl hin hQ fuel listed a w inv (Region.free_spec hi hf) hr' hy hS (h (inv.set hr' hin))
theorem WE_step {l : List Oper} (i : Nat) {o : Oper} {post : List Oper} {fuel : Nat} {listed : Array Bool} {a : Act} {w : World} (hd : l.drop i = o :: post)
   (hr : (decide (Region.ready md l.toArray listed = [i]) && decide (i < n)) = true)
   (h : ∀ K' : Act → World → Prop, Shut (∀ a w, S w → (S w → WE P md l.toArray n Q S fuel (listed.setIfInBounds i true) a w) → K' a w) → if Region.wanted o (yielded l.toArray a.tmps) = true then Oper.wp P o a w K' Q else K' (a.put o.dst undef) w) :
   WE P md l.toArray n Q S (fuel + 1) listed a w := fun inv => by
 simp only [Bool.and_eq_true, decide_eq_true_eq] at hr
 obtain ⟨hr, hin⟩ := hr
 refine ⟨fun h0 => (by rw [hr] at h0; cases h0), fun j hj => ?_⟩
 obtain rfl : j = i := by rw [hr] at hj; simpa using hj
 exact wpOp_step (get_drop hd) (fun K' hK => h K' (fun a w hS hW => hK a w ⟨fun _ => hS, hW hS (inv.set hj hin)⟩))
theorem WE_last {l : List Oper} {o : Oper} {post : List Oper} {fuel : Nat} {listed : Array Bool} {a : Act} {w : World} (hd : l.drop n = o :: post)
   (hr : (decide (Region.ready md l.toArray listed = [n]) && decide (Region.ready md l.toArray (listed.setIfInBounds n true) = [])) = true)
   (h : ∀ K' : Act → World → Prop, Shut (∀ a w, Q .normal a w → K' a w) → if Region.wanted o (yielded l.toArray a.tmps) = true then Oper.wp P o a w K' Q else K' (a.put o.dst undef) w) :
   WE P md l.toArray n Q S (fuel + 1) listed a w := fun _ => by
 simp only [Bool.and_eq_true, decide_eq_true_eq] at hr
 obtain ⟨hr, hr2⟩ := hr
 refine ⟨fun h0 => (by rw [hr] at h0; cases h0), fun j hj => ?_⟩
 obtain rfl : j = n := by rw [hr] at hj; simpa using hj
 refine wpOp_step (get_drop hd) (fun K' hK => h K' (fun a w hW => hK a w ⟨fun h => absurd h (Nat.lt_irrefl _), ?_⟩))
 cases fuel with
 | zero => exact ⟨hr2, hW⟩
 | succ f => exact ⟨fun _ => hW, fun k hk => by rw [hr2] at hk; cases hk⟩
theorem wp_region_E {id : Nat} {a : Act} {w : World} (n : Nat) (S : World → Prop) (hm : P.follows .mixedOrders = true) (hS : S w.drew)
   (h : S w.drew → WE P .any ops n Q S ops.size (Array.replicate ops.size false) a w.drew) : (Code.region id ops true).wp P Q a w := by
 refine wp_region_any hm (wpAny_of_E (n := n) (S := S) _ _ _ _ (h hS ⟨by simp, fun j oj _ hl => (by rw [getD_replicate_false] at hl; cases hl), fun t _ ht => getD_in (by simpa using ht) (getD_replicate_false _ _)⟩))
end
end Go.Df
namespace Go.Df
open Go
section
variable {P : Program} {Q : Exit → Act → World → Prop} {md : Region.Mode} {S : World → Prop} {n : Nat}
theorem WE_tk {l : List Oper} (i : Nat) {oi : Oper} {post : List Oper} {v : Value} {fuel : Nat} {listed l' : Array Bool} {a a' : Act} {w : World} (h : WE P md l.toArray n Q S fuel l' a' w) (hd : l.drop i = oi :: post := by rfl) (hl : (lastB md l.toArray n && Region.noSelect l.toArray && Region.free md l.toArray listed i && (Region.ready md l.toArray listed).contains i && decide (i < n)) = true := by kernel_rfl) (hQ : ∀ c a w, Q (.panic c) (a.put oi.dst v) w → Q (.panic c) a w := by exact fun _ _ _ h => h) (hw : Region.wanted oi (yielded l.toArray a.tmps) = true := by rfl) (hy : ∀ w9, S w9 → (execOp a.eval oi).run P w9 = .ok (.value v) w9 := by intro w9 hSw; (try dsimp only at hSw); go_simp; try with_reducible rfl) (hS : S w := by assumption) (hl' : listed.setIfInBounds i true = l' := by first | (simp only [Act.put, List.setIfInBounds_toArray, List.set_cons_zero, List.set_cons_succ]; done) | (simp only [Act.put, List.setIfInBounds_toArray, List.set_cons_zero, List.set_cons_succ]; rfl) | rfl) (ha' : a.put oi.dst v = a' := by first | (simp only [Act.put, List.setIfInBounds_toArray, List.set_cons_zero, List.set_cons_succ]; done) | (simp only [Act.put, List.setIfInBounds_toArray, List.set_cons_zero, List.set_cons_succ]; rfl) | rfl) : WE P md l.toArray n Q S (fuel + 1) listed a w := by
 subst hl' ha'
 exact WE_take i hd hl hQ (.inl ⟨hw, hy⟩) hS h
theorem WE_tu {l : List Oper} (i : Nat) {oi : Oper} {post : List Oper} {fuel : Nat} {listed l' : Array Bool} {a a' : Act} {w : World} (h : WE P md l.toArray n Q S fuel l' a' w) (hd : l.drop i = oi :: post := by rfl) (hl : (lastB md l.toArray n && Region.noSelect l.toArray && Region.free md l.toArray listed i && (Region.ready md l.toArray listed).contains i && decide (i < n)) = true := by kernel_rfl) (hQ : ∀ c a w, Q (.panic c) (a.put oi.dst undef) w → Q (.panic c) a w := by exact fun _ _ _ h => h) (hw : Region.wanted oi (yielded l.toArray a.tmps) = false := by rfl) (hS : S w := by assumption) (hl' : listed.setIfInBounds i true = l' := by first | (simp only [Act.put, List.setIfInBounds_toArray, List.set_cons_zero, List.set_cons_succ]; done) | (simp only [Act.put, List.setIfInBounds_toArray, List.set_cons_zero, List.set_cons_succ]; rfl) | rfl) (ha' : a.put oi.dst undef = a' := by first | (simp only [Act.put, List.setIfInBounds_toArray, List.set_cons_zero, List.set_cons_succ]; done) | (simp only [Act.put, List.setIfInBounds_toArray, List.set_cons_zero, List.set_cons_succ]; rfl) | rfl) : WE P md l.toArray n Q S (fuel + 1) listed a w := by
 subst hl' ha'
 exact WE_take i hd hl hQ (.inr ⟨hw, rfl⟩) hS h
theorem WE_put {l : List Oper} {fuel : Nat} {listed l' : Array Bool} {a a' : Act} {w : World} (h : WE P md l.toArray n Q S fuel l' a' w) (hl' : listed = l' := by first | (simp only [Act.put, List.setIfInBounds_toArray, List.set_cons_zero, List.set_cons_succ]; done) | (simp only [Act.put, List.setIfInBounds_toArray, List.set_cons_zero, List.set_cons_succ]; rfl) | rfl) (ha' : a = a' := by first | (simp only [Act.put, List.setIfInBounds_toArray, List.set_cons_zero, List.set_cons_succ]; done) | (simp only [Act.put, List.setIfInBounds_toArray, List.set_cons_zero, List.set_cons_succ]; rfl) | rfl) : WE P md l.toArray n Q S fuel listed a w := by
 subst hl' ha'
 exact h
end
end Go.Df
namespace Go.Df
open Go.RowKit
def Gw (W w' : World) : Prop := ∃ q os, w' = Go.Sort.grow (W.drewN q) os
theorem Gw.refl (W : World) : Gw W W := ⟨0, #[], by simp [Go.Sort.grow, World.drewN]⟩
theorem Gw.alloc {W w' : World} (h : Gw W w') (o : Obj) : Gw W (w'.alloc o) := by
 obtain ⟨q, os, rfl⟩ := h
 exact ⟨q, os ++ #[o], by rw [Go.Sort.alloc_eq_grow, Go.Sort.grow_grow]⟩
theorem Gw.drew {W w' : World} (h : Gw W w') : Gw W w'.drew := by
 obtain ⟨q, os, rfl⟩ := h
 exact ⟨q + 1, os, by simp [Go.Sort.grow, World.drewN, World.drew, Nat.add_assoc]⟩
theorem Gw.trans {W w1 w2 : World} (h : Gw W w1) (k : Gw w1 w2) : Gw W w2 := by
 obtain ⟨q, os, rfl⟩ := h
 obtain ⟨r, ot, rfl⟩ := k
 exact ⟨q + r, os ++ ot, by simp [Go.Sort.grow, World.drewN, Nat.add_assoc, Array.append_assoc]⟩
end Go.Df
namespace Go.Proofs.YtincpmdldpakkaaGreatDoor
open Go.RowKit Go.Df Go.Df.Iv Go.Df.Sp
attribute [local go_sem ↓] Go.wp_at_zero Go.wp_at_succ
theorem two_ints9 (w : World) (x y : Int) (t : TypeId) (b : Nat) (hb : b = w.heap.size) : Ints (w.alloc (.cells #[.int .i64 x, .int .i64 y] t)) (some ⟨b, 0, none⟩) 2 [x, y] := by
 subst hb
 refine ⟨rfl, fun _ => ⟨_, _, rfl, by simp, fun i hi => ?_⟩⟩
 rw [World.cell?_alloc_new, Nat.zero_add]
 match i, hi with
 | 0, _ => rfl
 | 1, _ => rfl
set_option maxRecDepth 100000 in
set_option maxHeartbeats 4000000 in
theorem jcmp_any (x y : Jp) (w : World) :
   Calls Tryz.prog 53 #[.agg (jc x).toArray, .agg (jc y).toArray] w fun e w' => e = .returned (.int .i64 (jcmp x y)) ∧ Gw w w' := by
 obtain ⟨n1, i1, o1, k1, b1', c1⟩ := x
 obtain ⟨n2, i2, o2, k2, b2', c2⟩ := y
 unfold jc
 go_enter Tryz.func53, Tryz.ntmps53
 go_upto_region 1 with fail
 refine wp_named (fun W => ∃ b0 b1, w.heap.size = b0 ∧ w.heap.size + 1 = b1 ∧ Blk W b0 [.int .i64 n1, .int .i64 i1, .int .i64 o1, .int .i64 k1, .int .i64 b1', .int .i64 c1] ∧ Blk W b1 [.int .i64 n2, .int .i64 i2, .int .i64 o2, .int .i64 k2, .int .i64 b2', .int .i64 c2] ∧ Gw w W) ⟨_, _, rfl, rfl, (Blk.new _ _ _ _ (by first | rfl | simp)).alloc _, Blk.new _ _ _ _ (by first | rfl | simp), ((Gw.refl w).alloc _).alloc _⟩ ?_
 rintro W ⟨b0, b1, e0, e1, B0, B1, hG⟩
 rw [e1, e0]
 have n01 : b0 ≠ b1 := by omega
 have n10 : b1 ≠ b0 := by omega
 clear e0 e1
 have ⟨L0, C0, F0⟩ := B0
 have ⟨L1, C1, F1⟩ := B1
 go_region_held3 (fun w' => SX0 W w' ∧ Gw W w') (first | (with_reducible assumption) | exact ⟨SX0.init _, (Gw.refl _).drew⟩ | exact ⟨hHeld.1.alloc _, hHeld.2.alloc _⟩ | exact ⟨SX0.of ((Kept.refl _ _).drew.alloc _), (Gw.refl _).drew.alloc _⟩)
   (first | (go_at_call 55; refine (compare_any _ _ _).mono ?_; rintro e w1 ⟨rfl, rfl⟩) | (go_at_call 54; refine (or_any _ _ _ [Sp.cmpI i1 i2, Sp.cmpI o1 o2] _ (by first | exact two_ints9 _ _ _ _ _ (by first | rfl | simp) | exact Ints.drew (two_ints9 _ _ _ _ _ (by first | rfl | simp))) (by omega) (by omega)).mono ?_; rintro e w2 ⟨rfl, rfl⟩))
 all_goals
   go_wp2_with fail
   go_ret
   exact ⟨rfl, hG.trans (by first | exact (Gw.refl _).drew.alloc _ | exact ((Gw.refl _).alloc _).drew | exact (Gw.refl _).alloc _)⟩
end Go.Proofs.YtincpmdldpakkaaGreatDoor
namespace Go.Proofs.YtincpmdldpakkaaGreatDoor
open Go.RowKit Go.Sort Go.Shelf
def layJr : Go.Shelf.Ren := ⟨fun | 6 => 52 | 15 => 100 | 14 => 99 | 28 => 160 | 29 => 161 | 20 => 152 | 21 => 153 | 22 => 154 | 23 => 155 | 24 => 156 | 25 => 157 | 26 => 158 | 27 => 159 | 46 => 184 | 47 => 185 | 48 => 186 | 49 => 187 | 50 => 188 | 57 => 202 | n => n, fun | 22 => 67 | 24 => 73 | 25 => 138 | 3 => 3 | 39 => 192 | 0 => 0 | 53 => 251 | 55 => 253 | 4 => 4 | 46 => 244 | 45 => 243 | 50 => 248 | 5 => 5 | 9 => 9 | 66 => 282 | 70 => 286 | 76 => 301 | 77 => 211 | n => n, fun | n => n⟩
theorem layJ : Go.Proofs.SlLaysF0.n6 Tryz.prog layJr := {
 mixed := by kernel_rfl
 f6 := ⟨Tryz.f52.name, by decide, Tryz.func52.trans (congrArg some (by kernel_rfl))⟩
 f14 := ⟨Tryz.f99.name, by decide, Tryz.func99.trans (congrArg some (by kernel_rfl))⟩
 f15 := Tryz.func100.trans (congrArg some (by kernel_rfl))
 f20 := ⟨Tryz.f152.name, by decide, Tryz.func152.trans (congrArg some (by kernel_rfl))⟩
 f21 := ⟨Tryz.f153.name, by decide, Tryz.func153.trans (congrArg some (by kernel_rfl))⟩
 f22 := ⟨Tryz.f154.name, by decide, Tryz.func154.trans (congrArg some (by kernel_rfl))⟩
 f23 := ⟨Tryz.f155.name, by decide, Tryz.func155.trans (congrArg some (by kernel_rfl))⟩
 f24 := ⟨Tryz.f156.name, by decide, Tryz.func156.trans (congrArg some (by kernel_rfl))⟩
 f25 := ⟨Tryz.f157.name, by decide, Tryz.func157.trans (congrArg some (by kernel_rfl))⟩
 f26 := ⟨Tryz.f158.name, by decide, Tryz.func158.trans (congrArg some (by kernel_rfl))⟩
 f27 := ⟨Tryz.f159.name, by decide, Tryz.func159.trans (congrArg some (by kernel_rfl))⟩
 f28 := Tryz.func160.trans (congrArg some (by kernel_rfl))
 f29 := Tryz.func161.trans (congrArg some (by kernel_rfl))
 f46 := ⟨Tryz.f184.name, by decide, Tryz.func184.trans (congrArg some (by kernel_rfl))⟩
 f47 := Tryz.func185.trans (congrArg some (by kernel_rfl))
 f48 := Tryz.func186.trans (congrArg some (by kernel_rfl))
 f49 := ⟨Tryz.f187.name, by decide, Tryz.func187.trans (congrArg some (by kernel_rfl))⟩
 f50 := ⟨Tryz.f188.name, by decide, Tryz.func188.trans (congrArg some (by kernel_rfl))⟩
 f57 := ⟨Tryz.f202.name, by decide, Tryz.func202.trans (congrArg some (by kernel_rfl))⟩
 t0 := Tryz.underlying0
 a0 := Tryz.isAgg0
 z0 := Tryz.sizeOf0
 v0 := Tryz.zeroValue0
 t3 := Tryz.underlying3
 a3 := Tryz.isAgg3
 z3 := Tryz.sizeOf3
 v3 := Tryz.zeroValue3
 t4 := Tryz.underlying4
 a4 := Tryz.isAgg4
 z4 := Tryz.sizeOf4
 v4 := Tryz.zeroValue4
 t5 := Tryz.underlying5
 a5 := Tryz.isAgg5
 z5 := Tryz.sizeOf5
 v5 := Tryz.zeroValue5
 t9 := Tryz.underlying9
 a9 := Tryz.isAgg9
 z9 := Tryz.sizeOf9
 v9 := Tryz.zeroValue9
 t22 := Tryz.underlying67
 a22 := Tryz.isAgg67
 z22 := Tryz.sizeOf67
 v22 := Tryz.zeroValue67
 t25 := Tryz.underlying138
 a25 := Tryz.isAgg138
 z25 := Tryz.sizeOf138
 v25 := Tryz.zeroValue138
 t39 := Tryz.underlying192
 a39 := Tryz.isAgg192
 z39 := Tryz.sizeOf192
 v39 := Tryz.zeroValue192
 t45 := Tryz.underlying243
 a45 := Tryz.isAgg243
 z45 := Tryz.sizeOf243
 v45 := Tryz.zeroValue243
 t46 := Tryz.underlying244
 a46 := Tryz.isAgg244
 z46 := Tryz.sizeOf244
 v46 := Tryz.zeroValue244
 t50 := Tryz.underlying248
 a50 := Tryz.isAgg248
 z50 := Tryz.sizeOf248
 v50 := Tryz.zeroValue248
 t53 := Tryz.underlying251
 a53 := Tryz.isAgg251
 z53 := Tryz.sizeOf251
 v53 := Tryz.zeroValue251
 t55 := Tryz.underlying253
 a55 := Tryz.isAgg253
 z55 := Tryz.sizeOf253
 v55 := Tryz.zeroValue253
 t66 := Tryz.underlying282
 a66 := Tryz.isAgg282
 z66 := Tryz.sizeOf282
 v66 := Tryz.zeroValue282
 t70 := Tryz.underlying286
 a70 := Tryz.isAgg286
 z70 := Tryz.sizeOf286
 v70 := Tryz.zeroValue286
 t76 := Tryz.underlying301
 a76 := Tryz.isAgg301
 z76 := Tryz.sizeOf301
 v76 := Tryz.zeroValue301
 t77 := Tryz.underlying211
 a77 := Tryz.isAgg211
 z77 := Tryz.sizeOf211
 v77 := Tryz.zeroValue211 }
end Go.Proofs.YtincpmdldpakkaaGreatDoor
namespace Go.Df
open Go.RowKit Go.Maps Go.ChangeMaps
def MapV (P : Program) (k e : TypeId) (z : Lit) (w : World) (b n : Nat) (f : Value → Lit) : Prop :=
 ∃ D : DataW Unit, w.ownsMap P k (plainElem P e) b n D ∧ ∀ key kl, keyOf P k key = some kl → D.atKey kl (.lit z) = .lit (f key)
theorem MapV.made (P : Program) (k e : TypeId) (z : Lit) (w : World) (b : Nat) (hb : b = w.heap.size) : MapV P k e z (w.alloc (.map #[] 0)) b 0 (fun _ => z) := by
 subst hb
 exact ⟨_, World.ownsMap_made w P k _, fun _ _ _ => rfl⟩
theorem MapV.mono {P : Program} {k e : TypeId} {z : Lit} {w : World} {b n n' : Nat} {f : Value → Lit} (h : MapV P k e z w b n f) (hn : n ≤ n') : MapV P k e z w b n' f :=
 let ⟨D, h1, h2⟩ := h; ⟨D, h1.mono hn, h2⟩
theorem MapV.lt {P : Program} {k e : TypeId} {z : Lit} {w : World} {b n : Nat} {f : Value → Lit} (h : MapV P k e z w b n f) : b < w.heap.size :=
 let ⟨_, h1, _⟩ := h; h1.lt
theorem MapV.ext {P : Program} {k e : TypeId} {z : Lit} {w : World} {b n : Nat} {f g : Value → Lit} (h : MapV P k e z w b n f) (hg : ∀ key kl, keyOf P k key = some kl → f key = g key) : MapV P k e z w b n g :=
 let ⟨D, h1, h2⟩ := h; ⟨D, h1, fun key kl hk => by rw [h2 key kl hk, hg key kl hk]⟩
theorem MapV.kept {P : Program} {k e : TypeId} {z : Lit} {w w' : World} {b n : Nat} {f : Value → Lit} {X : List Nat} (h : MapV P k e z w b n f) (hk : Kept X w w') (hX : b ∉ X) : MapV P k e z w' b n f := by
 have hlt := h.lt
 obtain ⟨D, ⟨es, clock, h1, h2⟩, h3⟩ := h
 exact ⟨D, ⟨es, clock, (hk.block b hlt hX).trans h1, h2⟩, h3⟩
theorem MapV.look_int {P : Program} {k e t : TypeId} {w : World} {b n : Nat} {f : Value → Lit} (h : MapV P k e (.int .i64 0) w b n f) (K : Keyed P k) (ht : P.underlying t = some (.map k e)) (he : P.underlying e = some (.int .i64)) (hz : (zeroValue e).run P w = .ok (.int .i64 0) w)
   {key : Value} {kl : Lit} (hkey : keyOf P k key = some kl) {c : Int} (hc : f key = .int .i64 c) : (Instr.lookup t (.map (some b)) key false).run P w = .ok (.int .i64 c) w := by
 obtain ⟨D, h1, h2⟩ := h
 obtain ⟨c', hrun, hat, -⟩ := h1.lookup_int K ht he hz hkey
 have h3 := h2 key kl hkey
 rw [hat, hc] at h3
 cases h3
 exact hrun
theorem plainElem_bool_inv {P : Program} {e : TypeId} (he : P.underlying e = some .bool) {v : Value} {z : DataW Unit × List MemPlace} (h : plainElem P e v = some z) : ∃ a, v = .bool a ∧ z = (.lit (.bool a), []) := by
 unfold plainElem at h
 rw [he] at h
 split at h
 · cases h; exact ⟨_, rfl, rfl⟩
 all_goals simp_all
theorem MapV.look_bool {P : Program} {k e t : TypeId} {w : World} {b n : Nat} {f : Value → Lit} (h : MapV P k e (.bool false) w b n f) (K : Keyed P k) (ht : P.underlying t = some (.map k e)) (he : P.underlying e = some .bool) (hz : (zeroValue e).run P w = .ok (.bool false) w)
   {key : Value} {kl : Lit} (hkey : keyOf P k key = some kl) {c : Bool} (hc : f key = .bool c) : (Instr.lookup t (.map (some b)) key false).run P w = .ok (.bool c) w := by
 obtain ⟨D, h1, h2⟩ := h
 obtain ⟨v, ps, hrun, hv⟩ := h1.lookup K ht hz (plainElem_bool he false) hkey
 obtain ⟨a, rfl, ha⟩ := plainElem_bool_inv he hv
 have h3 := h2 key kl hkey
 simp only [Prod.mk.injEq] at ha
 rw [ha.1, hc] at h3
 cases h3
 exact hrun
theorem MapV.store {P : Program} {k e t : TypeId} {z : Lit} {w : World} {b n : Nat} {f : Value → Lit} (h : MapV P k e z w b n f) (K : Keyed P k) (ht : P.underlying t = some (.map k e)) (hn : n < maxLen)
   {key val : Value} {kl d : Lit} (hkey : keyOf P k key = some kl) (hval : plainElem (H := Unit) P e val = some (.lit d, [])) (g : Value → Lit) (g1 : g key = d) (g2 : ∀ x, x ≠ key → g x = f x) :
   ∃ w', (Instr.mapUpdate t (.map (some b)) key val).run P w = .ok () w' ∧ MapV P k e z w' b (n + 1) g ∧ Kept [b] w w' := by
 obtain ⟨D, h1, h2⟩ := h
 have hm := h1.isMap
 obtain ⟨w', hrun, h3, hg⟩ := h1.update K ht hn hkey hval
 refine ⟨w', hrun, ⟨_, h3, fun key' kl' hk' => ?_⟩, ⟨hg.1, hg.2, hg.3, hg.4, fun j hj hx => hg.5 j hj (by simp at hx; intro hh; exact hx (by simpa using hh))⟩⟩
 by_cases hkk : key' = key
 · subst hkk
   obtain rfl : kl' = kl := by rw [hkey] at hk'; exact (Option.some.inj hk').symm
   rw [atKey_put_same hm (K.key hkey), g1]
 · have hne : kl' ≠ kl := fun hh => hkk (K.inj (by rw [← hh]; exact hk') hkey)
   rw [atKey_put_other hne, g2 _ hkk]
   exact h2 key' kl' hk'
theorem wpList_store_map {P : Program} (w : World) {ops : Array Oper} {rest : List Oper} {o : Oper} {a : Act} {Q : Exit → Act → World → Prop}
   (hg : o.guard = none) (m x v : Operand) (t : TypeId) (hop : o.op = Op.mapUpdate t m x v)
   (k e : TypeId) (K : Keyed P k) (ht : P.underlying t = some (.map k e)) (z : Lit) (b n : Nat) (f : Value → Lit)
   (hm : a.eval m = .map (some b)) (hown : MapV P k e z w b n f) (hn : n < maxLen) (key val : Value) (kl d : Lit) (hx : a.eval x = key) (hv : a.eval v = val) (hkey : keyOf P k key = some kl)
   (hval : plainElem (H := Unit) P e val = some (.lit d, [])) (g : Value → Lit) (g1 : g key = d) (g2 : ∀ x, x ≠ key → g x = f x)
   (hK : ∀ w', MapV P k e z w' b (n + 1) g → Kept [b] w w' → wpList P ops Q rest (a.put o.dst undef) w') :
   wpList P ops Q (o :: rest) a w := by
 refine wpList_plain hg fun K' hK' => ?_
 obtain ⟨w', hrun, r1, r2⟩ := hown.store K ht hn hkey hval g g1 g2
 unfold Oper.wp
 simp [execOp, hop, hm, hx, hv, hrun, Result.andThen]
 exact hK' _ _ (hK w' r1 r2)
theorem wpList_look_int {P : Program} (w : World) {ops : Array Oper} {rest : List Oper} {o : Oper} {a : Act} {Q : Exit → Act → World → Prop}
   (hg : o.guard = none) (m x : Operand) (t : TypeId) (hop : o.op = Op.lookup t m x false)
   (k e : TypeId) (K : Keyed P k) (ht : P.underlying t = some (.map k e)) (he : P.underlying e = some (.int .i64)) (hz : (zeroValue e).run P w = .ok (.int .i64 0) w) (b n : Nat) (f : Value → Lit)
   (hm : a.eval m = .map (some b)) (hown : MapV P k e (.int .i64 0) w b n f) (key : Value) (kl : Lit) (hx : a.eval x = key) (hkey : keyOf P k key = some kl) (c : Int) (hc : f key = .int .i64 c)
   (hK : wpList P ops Q rest (a.put o.dst (.int .i64 c)) w) : wpList P ops Q (o :: rest) a w := by
 refine wpList_plain hg fun K' hK' => ?_
 have hrun := hown.look_int K ht he hz hkey hc
 unfold Oper.wp
 simp [execOp, hop, hm, hx, hrun, Result.andThen]
 exact hK' _ _ hK
def fieldsOf (P : Program) (k : TypeId) : List (String × TypeId × Nat) := match P.underlying k with | some (.struct fs) => fs.toList.map (fun f => (f.name, f.type, f.offset)) | _ => []
theorem fieldsOf_struct {P : Program} {k : TypeId} {l : List (String × TypeId × Nat)} (h : fieldsOf P k = l) (hl : l ≠ []) : ∃ fs, P.underlying k = some (.struct fs) ∧ fs.toList.map (fun f => (f.name, f.type, f.offset)) = l := by
 unfold fieldsOf at h
 cases hu : P.underlying k with
 | none => rw [hu] at h; exact absurd h.symm hl
 | some d =>
   rw [hu] at h
   cases d with
   | struct fs => exact ⟨fs, rfl, h⟩
   | _ => exact absurd h.symm hl
theorem keyed_struct {P : Program} {k : TypeId} {l : List (String × TypeId × Nat)} (hl : laidOutB P = true) (hrow : k < P.types.size) (hk : P.keyTypeAt 2 k = true) (h : fieldsOf P k = l) (hne : l ≠ []) : Keyed P k := by
 obtain ⟨fs, hu, -⟩ := fieldsOf_struct h hne
 exact Keyed.of_law (deep_law_laid hl (m := 2) (by omega) hrow hk (by rw [hu]))
theorem keyOf_two {P : Program} {k e : TypeId} {x y : String} (h : fieldsOf P k = [(x, e, 0), (y, e, 1)]) (hx : x ≠ "_") (hy : y ≠ "_") (hd : P.keyType k = true) (hrow : k < P.types.size) (hc : P.cellsOf k = 2) (he : P.underlying e = some (.int .i64)) (hce : P.cellsOf e = 1)
   (a b : Int) (ha : (Lit.int .i64 a).wf = true) (hb : (Lit.int .i64 b).wf = true) : ∃ kl, keyOf P k (.agg #[.int .i64 a, .int .i64 b]) = some kl := by
 obtain ⟨fs, hu, hf⟩ := fieldsOf_struct h (by simp)
 obtain ⟨m, hm⟩ : ∃ m, P.types.size = m + 1 := Nat.exists_eq_succ_of_ne_zero (Nat.ne_of_gt (Nat.lt_of_le_of_lt (Nat.zero_le (k : Nat)) hrow))
 have hfo : (Value.agg #[.int .i64 a, .int .i64 b]).formed P k = true := by
   unfold Value.formed
   rw [hu, hc]
   rfl
 have hl : fs.toList.length = 2 := by simpa using congrArg List.length hf
 obtain ⟨fl⟩ := fs
 match fl, hl, hf with
 | [f0, f1], _, hf =>
   simp only [List.map_cons, List.map_nil, List.cons.injEq, Prod.mk.injEq, and_true] at hf
   obtain ⟨⟨n0, t0, o0⟩, n1, t1, o1⟩ := hf
   unfold keyOf
   rw [hu]
   simp only [hd, hfo, Bool.and_self, if_true]
   rw [hm]
   simp [Program.keyLits, hu, hc, n0, n1, t0, t1, o0, o1, hce, he, ha, hb, Value.cells, hx, hy]
def tokElem (v : Value) : Option (DataW Value × List MemPlace) := some (.held v, [])
def Reads (P : Program) (k : TypeId) (z : Value) (D : DataW Value) (f : Value → Value) : Prop :=
 ∀ key kl, keyOf P k key = some kl → D.atKey kl (.held z) = .held (f key) ∧ ((∀ zd, D.atKey kl zd = .held (f key)) → f key ≠ z)
def MapT (P : Program) (k : TypeId) (z : Value) (w : World) (b n : Nat) (f : Value → Value) : Prop :=
 ∃ D : DataW Value, w.ownsMap P k tokElem b n D ∧ Reads P k z D f
theorem Reads.two {P : Program} {k : TypeId} {z : Value} {D : DataW Value} {f g : Value → Value} (h : Reads P k z D f) (hg : ∀ key, f key = g key) : Reads P k z D g := by
 have e : f = g := funext hg
 subst e
 exact h
theorem MapT.made (P : Program) (k : TypeId) (z : Value) (w : World) (b : Nat) (hb : b = w.heap.size) : MapT P k z (w.alloc (.map #[] 0)) b 0 (fun _ => z) := by
 subst hb
 refine ⟨_, World.ownsMap_made w P k _, fun _ _ _ => ⟨rfl, fun h => ?_⟩⟩
 have h9 := h (.lit (.bool true))
 cases h9
theorem MapT.mono {P : Program} {k : TypeId} {z : Value} {w : World} {b n n' : Nat} {f : Value → Value} (h : MapT P k z w b n f) (hn : n ≤ n') : MapT P k z w b n' f :=
 let ⟨D, h1, h2⟩ := h; ⟨D, h1.mono hn, h2⟩
theorem MapT.lt {P : Program} {k : TypeId} {z : Value} {w : World} {b n : Nat} {f : Value → Value} (h : MapT P k z w b n f) : b < w.heap.size :=
 let ⟨_, h1, _⟩ := h; h1.lt
theorem MapT.obj {P : Program} {k : TypeId} {z : Value} {w : World} {b n : Nat} {f : Value → Value} (h : MapT P k z w b n f) : ∃ es clock, w.heap[b]? = some (.map es clock) :=
 let ⟨_, ⟨es, clock, h1, _⟩, _⟩ := h; ⟨es, clock, h1⟩
theorem MapT.ext {P : Program} {k : TypeId} {z : Value} {w : World} {b n : Nat} {f g : Value → Value} (h : MapT P k z w b n f) (hg : ∀ key, f key = g key) : MapT P k z w b n g :=
 let ⟨D, h1, h2⟩ := h; ⟨D, h1, h2.two hg⟩
theorem MapT.same {P : Program} {k : TypeId} {z : Value} {w w' : World} {b n : Nat} {f : Value → Value} (h : MapT P k z w b n f) (hk : w'.heap[b]? = w.heap[b]?) : MapT P k z w' b n f := by
 obtain ⟨D, ⟨es, clock, h1, h2⟩, h3⟩ := h
 exact ⟨D, ⟨es, clock, hk.trans h1, h2⟩, h3⟩
theorem MapT.kept {P : Program} {k : TypeId} {z : Value} {w w' : World} {b n : Nat} {f : Value → Value} {X : List Nat} (h : MapT P k z w b n f) (hk : Kept X w w') (hX : b ∉ X) : MapT P k z w' b n f :=
 h.same (hk.block b h.lt hX)
theorem MapT.look {P : Program} {k e t : TypeId} {z : Value} {w : World} {b n : Nat} {f : Value → Value} (h : MapT P k z w b n f) (K : Keyed P k) (ht : P.underlying t = some (.map k e)) (hz : (zeroValue e).run P w = .ok z w)
   {key : Value} {kl : Lit} (hkey : keyOf P k key = some kl) : (Instr.lookup t (.map (some b)) key false).run P w = .ok (f key) w := by
 obtain ⟨D, h1, h2⟩ := h
 obtain ⟨v, ps, hrun, hv⟩ := h1.lookup K ht hz (zd := .held z) (zp := []) rfl hkey
 rw [(h2 key kl hkey).1] at hv
 unfold tokElem at hv
 injection hv with hv
 injection hv with hv _
 injection hv with hv
 rw [hrun, hv]
theorem MapT.store {P : Program} {k e t : TypeId} {z : Value} {w : World} {b n : Nat} {f : Value → Value} (h : MapT P k z w b n f) (K : Keyed P k) (ht : P.underlying t = some (.map k e)) (hn : n < maxLen)
   {key val : Value} {kl : Lit} (hkey : keyOf P k key = some kl) (g : Value → Value) (g1 : g key = val) (g2 : ∀ x, x ≠ key → g x = f x) (hz : val ≠ z) :
   ∃ w', (Instr.mapUpdate t (.map (some b)) key val).run P w = .ok () w' ∧ MapT P k z w' b (n + 1) g ∧ Kept [b] w w' := by
 obtain ⟨D, h1, h2⟩ := h
 have hm := h1.isMap
 obtain ⟨w', hrun, h3, hg⟩ := h1.update K ht hn hkey (d := .held val) (ps := []) rfl
 refine ⟨w', hrun, ⟨_, h3, fun key' kl' hk' => ?_⟩, ⟨hg.1, hg.2, hg.3, hg.4, fun j hj hx => hg.5 j hj (by simp at hx; intro hh; exact hx (by simpa using hh))⟩⟩
 by_cases hkk : key' = key
 · subst hkk
   obtain rfl : kl' = kl := by rw [hkey] at hk'; exact (Option.some.inj hk').symm
   exact ⟨by rw [atKey_put_same hm (K.key hkey), g1], fun _ => by rw [g1]; exact hz⟩
 · have hne : kl' ≠ kl := fun hh => hkk (K.inj (by rw [← hh]; exact hk') hkey)
   refine ⟨by rw [atKey_put_other hne, g2 _ hkk]; exact (h2 key' kl' hk').1, fun h => ?_⟩
   rw [g2 _ hkk] at h ⊢
   exact (h2 key' kl' hk').2 (fun zd => by rw [← h zd, atKey_put_other hne])
theorem keptWide {X Y : List Nat} {w w' : World} (h : Kept X w w') (hx : ∀ x ∈ X, x ∈ Y) : Kept Y w w' := ⟨h.os, h.tape, h.output, h.size, fun k hk hn => h.block k hk (fun hm => hn (hx k hm))⟩
def Tag (w : World) (b : Nat) (t : TypeId) : Prop := ∃ cur, w.heap[b]? = some (.cells cur t (0, 0))
theorem Tag.lt {w : World} {b : Nat} {t : TypeId} (h : Tag w b t) : b < w.heap.size := by
 obtain ⟨cur, h⟩ := h
 exact (Array.getElem?_eq_some_iff.1 h).1
theorem Tag.same {w w' : World} {b : Nat} {t : TypeId} (h : Tag w b t) (hk : w'.heap[b]? = w.heap[b]?) : Tag w' b t := let ⟨cur, h⟩ := h; ⟨cur, hk.trans h⟩
theorem Tag.new (w : World) (cur : Array Value) (t : TypeId) (b : Nat) (hb : b = w.heap.size) : Tag (w.alloc (.cells cur t)) b t := by
 subst hb
 exact ⟨cur, heap_alloc_new w _⟩
theorem Tag.frozen {w : World} {b : Nat} {t : TypeId} (h : Tag w b t) (i : Nat) : w.frozen? ⟨b, i, none⟩ = false := by
 obtain ⟨cur, h⟩ := h
 simp [World.frozen?, h]
theorem Tag.set {w : World} {b : Nat} {t : TypeId} (h : Tag w b t) (x i : Nat) (v : Value) : Tag (w.setCell ⟨x, i, none⟩ v) b t := by
 obtain ⟨cur, h⟩ := h
 by_cases e : b = x
 · subst e
   unfold Tag World.setCell
   simp only [Array.getElem?_modify]
   simp [h]
 · exact ⟨cur, (RowKit.Below.heap_setCell _ _ _ _ e).trans h⟩
theorem Tag.ne_map {w : World} {b x : Nat} {t : TypeId} (h : Tag w b t) (hx : ∃ es clock, w.heap[x]? = some (.map es clock)) : b ≠ x := by
 rintro rfl
 obtain ⟨cur, h⟩ := h
 obtain ⟨es, clock, hx⟩ := hx
 rw [h] at hx
 cases hx
theorem Tag.ne {w : World} {b x : Nat} {t u : TypeId} (h : Tag w b t) (hx : Tag w x u) (hn : t ≠ u) : b ≠ x := by
 rintro rfl
 obtain ⟨cur, h⟩ := h
 obtain ⟨cur', hx⟩ := hx
 rw [h] at hx
 injection hx with hx
 injection hx with _ hx _
 exact hn hx
theorem own_tag {w : World} {base : Nat} {e : TypeId} {size : Nat} {v : Value} {n : Nat} {xs : List Value} (h : w.ownsRow base e size v n xs) {g : Nat} (hg : v.ownBlock = some g) : Tag w g e := by
 rcases h.2 with ⟨rfl, _⟩ | ⟨g', cap, cur, rfl, _, h1, _⟩
 · cases hg
 · injection hg with hg
   subst hg
   exact ⟨cur, h1⟩
structure Kb (TS : List TypeId) (base : Nat) (w w' : World) : Prop where
 os : w'.os = w.os
 tape : w'.tape = w.tape
 output : w'.output = w.output
 size : w.heap.size ≤ w'.heap.size
 low : ∀ k, k < w.heap.size → k < base → w'.heap[k]? = w.heap[k]?
 tag : ∀ k t, Tag w k t → t ∉ TS → w'.heap[k]? = w.heap[k]?
theorem Kb.refl (TS : List TypeId) (base : Nat) (w : World) : Kb TS base w w := ⟨rfl, rfl, rfl, Nat.le_refl _, fun _ _ _ => rfl, fun _ _ _ _ => rfl⟩
theorem Kb.trans {TS : List TypeId} {base : Nat} {w w' w'' : World} (h : Kb TS base w w') (k : Kb TS base w' w'') : Kb TS base w w'' :=
 ⟨k.os.trans h.os, k.tape.trans h.tape, k.output.trans h.output, Nat.le_trans h.size k.size, fun x hx hb => (k.low x (Nat.lt_of_lt_of_le hx h.size) hb).trans (h.low x hx hb),
   fun x t ht hn => (k.tag x t (ht.same (h.tag x t ht hn)) hn).trans (h.tag x t ht hn)⟩
theorem Kb.of_kept {TS : List TypeId} {base : Nat} {X : List Nat} {w w' : World} (h : Kept X w w') (hX : ∀ x ∈ X, base ≤ x ∧ ∀ t, Tag w x t → t ∈ TS) : Kb TS base w w' :=
 ⟨h.os, h.tape, h.output, h.size, fun k hk hb => h.block k hk (fun hm => by have := (hX k hm).1; omega), fun k t ht hn => h.block k ht.lt (fun hm => hn ((hX k hm).2 t ht))⟩
theorem Kb.of_same {TS : List TypeId} {base : Nat} {w w' : World} (h : Kept [] w w') : Kb TS base w w' := Kb.of_kept h (by simp)
theorem Kb.below {TS : List TypeId} {base : Nat} {w w' : World} (h : Kb TS base w w') (hb : base ≤ w.heap.size) : Below base w w' :=
 ⟨h.os, h.tape, h.output, h.size, fun k hk => h.low k (by omega) hk⟩
theorem Kb.call {TS : List TypeId} {base : Nat} {w w' w'' : World} (h : Kb TS base w w') (hb : Below w'.heap.size w' w'') : Kb TS base w w'' := h.trans (Kb.of_same ((Kept.refl _ _).call hb))
structure Tb (P : Program) (k tM : TypeId) (z : Value) (w : World) (r N : Nat) (m : Nat → Option Nat) (c : Nat → Nat) (v : Nat → Value → Value) : Prop where
 row : ∃ cur, w.heap[r]? = some (.cells cur tM (0, 0)) ∧ cur.size = N ∧ ∀ n, n < N → cur[n]? = some (.map (m n))
 is : ∀ n b, n < N → m n = some b → MapT P k z w b (c n) (v n)
 no : ∀ n, n < N → m n = none → ∀ a, v n a = z
 inj : ∀ n n' b, n < N → n' < N → m n = some b → m n' = some b → n = n'
variable {P : Program} {k tM : TypeId} {z : Value} {w : World} {r N : Nat} {m : Nat → Option Nat} {c : Nat → Nat} {v : Nat → Value → Value}
theorem Tb.rtag (h : Tb P k tM z w r N m c v) : Tag w r tM := let ⟨cur, h1, _⟩ := h.row; ⟨cur, h1⟩
theorem Tb.cell (h : Tb P k tM z w r N m c v) {n : Nat} (hn : n < N) : w.cell? ⟨r, n, none⟩ = some (.map (m n)) := by
 obtain ⟨cur, h1, _, h3⟩ := h.row
 simp [World.cell?, h1, h3 n hn]
theorem Tb.kept {X : List Nat} {w' : World} (h : Tb P k tM z w r N m c v) (hk : Kept X w w') (hr : r ∉ X) (hm : ∀ n b, n < N → m n = some b → b ∉ X) : Tb P k tM z w' r N m c v := by
 obtain ⟨cur, h1, h2, h3⟩ := h.row
 exact ⟨⟨cur, (hk.block r h.rtag.lt hr).trans h1, h2, h3⟩, fun n b hn hb => (h.is n b hn hb).kept hk (hm n b hn hb), h.no, h.inj⟩
theorem Tb.ext (h : Tb P k tM z w r N m c v) {v' : Nat → Value → Value} (hv : ∀ n a, v n a = v' n a) : Tb P k tM z w r N m c v' := by
 have : v = v' := funext fun n => funext fun a => hv n a
 subst this
 exact h
open Classical in
noncomputable def updV (v : Nat → Value → Value) (n : Nat) (key x : Value) : Nat → Value → Value := fun n' key' => if n' = n ∧ key' = key then x else v n' key'
theorem Tb.stored {w' : World} {n b : Nat} {key x : Value} (h : Tb P k tM z w r N m c v) (hn : n < N) (hb : m n = some b) (hk : Kept [b] w w') (hm : MapT P k z w' b (c n + 1) (updV v n key x n)) :
   Tb P k tM z w' r N m (fun i => if i = n then c n + 1 else c i) (updV v n key x) := by
 obtain ⟨cur, h1, h2, h3⟩ := h.row
 have hne : r ≠ b := h.rtag.ne_map (h.is n b hn hb).obj
 refine ⟨⟨cur, (hk.block r h.rtag.lt (by simpa using hne)).trans h1, h2, h3⟩, fun i b' hi hb' => ?_, fun i hi hi' a => ?_, h.inj⟩
 · by_cases e : i = n
   · subst e
     obtain rfl : b' = b := by rw [hb] at hb'; exact (Option.some.inj hb').symm
     simpa using hm
   · have h4 := (h.is i b' hi hb').kept hk (by intro hm'; simp at hm'; subst hm'; exact e (h.inj i n b' hi hn hb' hb))
     simp only [if_neg e]
     refine h4.ext fun a => ?_
     simp [updV, e]
 · have e : i ≠ n := by rintro rfl; rw [hb] at hi'; cases hi'
   simp only [updV]
   rw [if_neg (fun hh => e hh.1)]
   exact h.no i hi hi' a
theorem Tb.fresh {n b : Nat} (h : Tb P k tM z w r N m c v) (hn : n < N) (hm : m n = none) (hb : b = w.heap.size) :
   Tb P k tM z ((w.alloc (.map #[] 0)).setCell ⟨r, n, none⟩ (.map (some b))) r N (fun i => if i = n then some b else m i) c v := by
 subst hb
 obtain ⟨cur, h1, h2, h3⟩ := h.row
 have hr := h.rtag.lt
 have h1' : (w.alloc (.map #[] 0)).heap[r]? = some (.cells cur tM (0, 0)) := (((Kept.refl [] w).alloc _).block r hr (by simp)).trans h1
 have hrow : ((w.alloc (.map #[] 0)).setCell ⟨r, n, none⟩ (.map (some w.heap.size))).heap[r]? = some (.cells (cur.setIfInBounds n (.map (some w.heap.size))) tM (0, 0)) := by
   unfold World.setCell
   simp only [Array.getElem?_modify]
   simp [h1']
 have hkx : Kept [r] (w.alloc (.map #[] 0)) ((w.alloc (.map #[] 0)).setCell ⟨r, n, none⟩ (.map (some w.heap.size))) := (Kept.refl _ _).set _ _ _ (.inl (by simp))
 refine ⟨⟨_, hrow, by simpa using h2, fun i hi => ?_⟩, fun i b' hi hb' => ?_, fun i hi hi' => ?_, fun i j b' hi hj hbi hbj => ?_⟩
 · by_cases e : i = n
   · subst e
     simp [h2, hi]
   · rw [Array.getElem?_setIfInBounds_ne (Ne.symm e), h3 i hi, if_neg e]
 · by_cases e : i = n
   · subst e
     rw [if_pos rfl] at hb'
     injection hb' with hb'
     subst hb'
     have h5 : MapT P k z (w.alloc (.map #[] 0)) w.heap.size (c i) (v i) := ((MapT.made P k z w _ rfl).mono (Nat.zero_le _)).ext fun a => (h.no i hi hm a).symm
     exact h5.kept hkx (by simp; omega)
   · rw [if_neg e] at hb'
     have h4 := (h.is i b' hi hb').kept ((Kept.refl [] w).alloc (.map #[] 0)) (by simp)
     have h5 : b' ≠ r := (h.rtag.ne_map (h.is i b' hi hb').obj).symm
     exact h4.kept hkx (by simpa using h5)
 · by_cases e : i = n
   · subst e; rw [if_pos rfl] at hi'; cases hi'
   · rw [if_neg e] at hi'
     exact h.no i hi hi'
 · by_cases e : i = n
   · by_cases e' : j = n
     · omega
     · subst e
       rw [if_pos rfl] at hbi
       rw [if_neg e'] at hbj
       injection hbi with hbi
       have := (h.is j b' hj hbj).lt
       omega
   · rw [if_neg e] at hbi
     by_cases e' : j = n
     · subst e'
       rw [if_pos rfl] at hbj
       injection hbj with hbj
       have := (h.is i b' hi hbi).lt
       omega
     · rw [if_neg e'] at hbj
       exact h.inj i j b' hi hj hbi hbj
end Go.Df
