/- Texts: Mb Le Bi. -/
import Derived.Test.YtincpmdldpakkaaDoorCi09
import Derived.Test.YtincpmdldpakkaaDoorRows
import Derived.Test.YtincpmdldpakkaaDoorCi01
import Derived.StillTail
import Derived.Test.YtincpmdldpakkaaDoorCi07
import Derived.Maps.OwnOps
import Derived.WalkSpells
namespace Go.Proofs.YtincpmdldpakkaaDoor
open Go.RowKit Go.Df Go.WideMaps
theorem Tryd.laidOut : laidOutB Tryd.prog = true := by kernel_rfl
theorem Tryd.rowEdge : (126 : TypeId) < Tryd.prog.types.size := of_decide_eq_true (by kernel_rfl)
theorem Tryd.deepEdge : Tryd.prog.keyTypeAt (Tryd.prog.types.size + 1) 126 = true := by kernel_rfl
theorem Tryd.deepEdge2 : Tryd.prog.keyTypeAt 2 126 = true := by kernel_rfl
theorem Tryd.fieldsEdge : fieldsOf Tryd.prog 126 = [("From", 3, 0), ("To", 3, 1)] := by kernel_rfl
theorem Tryd.lawEdge : Maps.Keyed Tryd.prog 126 := keyed_struct Tryd.laidOut Tryd.rowEdge Tryd.deepEdge2 Tryd.fieldsEdge (by simp)
theorem Tryd.zeroBool (w : World) : (zeroValue 4).run Tryd.prog w = .ok (.bool false) w := by kernel_rfl
theorem Tryd.zeroInt (w : World) : (zeroValue 3).run Tryd.prog w = .ok (.int .i64 0) w := by kernel_rfl
theorem Tryd.mapII : Tryd.prog.underlying 121 = some (.map 3 3) := by kernel_rfl
theorem Tryd.mapEB : Tryd.prog.underlying 124 = some (.map 126 4) := by kernel_rfl
theorem Tryd.undInt : Tryd.prog.underlying 3 = some (.int .i64) := by kernel_rfl
theorem Tryd.undBool : Tryd.prog.underlying 4 = some .bool := by kernel_rfl
theorem Tryd.lawInt : Maps.Keyed Tryd.prog 3 := Maps.int_keyed Tryd.undInt
theorem Tryd.keyInt (a : Int) (h : (Lit.int .i64 a).wf = true) : keyOf Tryd.prog 3 (.int .i64 a) = some (.int .i64 a) := Maps.keyOf_int_mk Tryd.undInt h
theorem Tryd.cellsInt : Tryd.prog.cellsOf 3 = 1 := by kernel_rfl
theorem Tryd.cellsEdge : Tryd.prog.cellsOf 126 = 2 := by kernel_rfl
theorem Tryd.keyEdge (a b : Int) (ha : (Lit.int .i64 a).wf = true) (hb : (Lit.int .i64 b).wf = true) : ∃ kl, keyOf Tryd.prog 126 (.agg #[.int .i64 a, .int .i64 b]) = some kl :=
 keyOf_two Tryd.fieldsEdge (by decide) (by decide) Tryd.deepEdge Tryd.rowEdge Tryd.cellsEdge Tryd.undInt Tryd.cellsInt a b ha hb
end Go.Proofs.YtincpmdldpakkaaDoor
namespace Go.Df
open Go
section
variable {P : Program} {ops : Array Oper} {Q : Exit → Act → World → Prop} {md : Region.Mode} {S : World → Prop} {n : Nat}
def wpAnyE (P : Program) (md : Region.Mode) (ops : Array Oper) (n : Nat) (Q : Exit → Act → World → Prop) (S : World → Prop) : Nat → Array Bool → Act → World → Prop
 | 0, listed, a, w => Region.ready md ops listed = [] ∧ Q .normal a w
 | fuel + 1, listed, a, w =>
   (Region.ready md ops listed = [] → Q .normal a w) ∧
   ∀ i ∈ Region.ready md ops listed, wpOp P ops Q i (fun a' w' => (i < n → S w') ∧ wpAnyE P md ops n Q S fuel (listed.setIfInBounds i true) a' w') a w
theorem wpAny_of_E : ∀ (fuel : Nat) (listed : Array Bool) (a : Act) (w : World), wpAnyE P md ops n Q S fuel listed a w → wpAny P md ops Q fuel listed a w
 | 0, _, _, _, h => h
 | fuel + 1, _, _, _, h => ⟨h.1, fun i hi => wpOp_mono (fun a' w' h' => wpAny_of_E fuel _ a' w' h'.2) (h.2 i hi)⟩
def lastB (md : Region.Mode) (ops : Array Oper) (n : Nat) : Bool := Region.sinkB md ops n && Region.chainB md ops n && decide (n < ops.size)
theorem wpAnyE_first {i : Nat} {oi : Oper} {v : Value} (hi : ops[i]? = some oi) (hsel : ∀ (j : Nat) (o : Oper) cs b, ops[j]? = some o → o.op ≠ .select cs b)
   (hl : lastB md ops n = true) (hin : i < n)
   (hQ : ∀ c a w, Q (.panic c) (a.put oi.dst v) w → Q (.panic c) a w) :
   ∀ (fuel : Nat) (listed : Array Bool) (a : Act) (w : World), HeadInv md ops n listed →
     (∀ j oj, ops[j]? = some oj → j ≠ i → listed.getD j true = false → (∀ e ∈ oj.after, Region.binds md e = true → e.on ≠ i) → oi.apart ops oj = true) →
     i ∈ Region.ready md ops listed → YieldsIf P ops S oi v a → S w →
     wpAnyE P md ops n Q S fuel (listed.setIfInBounds i true) (a.put oi.dst v) w → wpAnyE P md ops n Q S (fuel + 1) listed a w := by
 simp only [lastB, Bool.and_eq_true, decide_eq_true_eq] at hl
 obtain ⟨⟨hs, hc⟩, hn⟩ := hl
 intro fuel
 induction fuel with
 | zero =>
   intro listed a w _ _ hr hy hS H
   refine ⟨fun h => (by rw [h] at hr; cases hr), fun j hj => ?_⟩
   by_cases hji : j = i
   · subst hji; exact hy.wpOp hi hS ⟨fun _ => hS, H⟩
   · have := ready_mono hj hji
     rw [H.1] at this
     cases this
 | succ fuel ih =>
   intro listed a w inv hfree hr hy hS H
   refine ⟨fun h => (by rw [h] at hr; cases hr), fun j hj => ?_⟩
   by_cases hji : j = i
   · subst hji; exact hy.wpOp hi hS ⟨fun _ => hS, H⟩
   · have hun := (mem_ready.1 hr).1
     have hjn : j < n := by
       rcases Nat.lt_or_ge j n with h | h
       · exact h
       · exact absurd hj (tail_waits hs hc hn inv _ i rfl hin hun j h)
     have h1 := H.2 j (ready_mono hj hji)
     obtain ⟨hjun, oj, hoj, hall⟩ := mem_ready.1 hj
     have hnot : ∀ e ∈ oj.after, Region.binds md e = true → e.on ≠ i := fun e he hb heq => by
       have h1 := hall e he hb
       rw [heq, getD_both hun] at h1
       cases h1
     have h2 := wpOp_putIf hoj (hfree j oj hoj hji hjun hnot) (fun cs b => hsel i oi cs b hi) (fun cs b => hsel j oj cs b hoj) hQ hy h1
     have hfree' : ∀ k ok, ops[k]? = some ok → k ≠ i → (listed.setIfInBounds j true).getD k true = false →
         (∀ e ∈ ok.after, Region.binds md e = true → e.on ≠ i) → oi.apart ops ok = true := fun k ok hk hki hun hno => by
       refine hfree k ok hk hki ?_ hno
       by_cases hjk : j = k
       · subst hjk; exact hjun
       · rw [getD_set_ne true hjk] at hun; exact hun
     refine wpOp_mono (fun a' w' h3 => ⟨fun _ => h3.2.1 hjn, ih (listed.setIfInBounds j true) a' w' (inv.set hj hjn) hfree' (ready_mono hr (Ne.symm hji)) h3.1 (h3.2.1 hjn) ?_⟩) h2
     rw [Array.setIfInBounds_comm _ _ hji]
     exact h3.2.2
def WE (P : Program) (md : Region.Mode) (ops : Array Oper) (n : Nat) (Q : Exit → Act → World → Prop) (S : World → Prop) (fuel : Nat) (listed : Array Bool) (a : Act) (w : World) : Prop :=
 HeadInv md ops n listed → wpAnyE P md ops n Q S fuel listed a w
theorem get_drop {l : List Oper} {i : Nat} {oi : Oper} {post : List Oper} (hd : l.drop i = oi :: post) : (l.toArray)[i]? = some oi := by
 have h : (l.drop i)[0]? = some oi := by rw [hd]; rfl
 rw [List.getElem?_drop] at h
 simpa using h
theorem WE_take {l : List Oper} (i : Nat) {oi : Oper} {post : List Oper} {v : Value} {fuel : Nat} {listed : Array Bool} {a : Act} {w : World} (hd : l.drop i = oi :: post)
   (hl : (lastB md l.toArray n && Region.noSelect l.toArray && Region.free md l.toArray listed i && (Region.ready md l.toArray listed).contains i && decide (i < n)) = true)
   (hQ : ∀ c a w, Q (.panic c) (a.put oi.dst v) w → Q (.panic c) a w) (hy : YieldsIf P l.toArray S oi v a) (hS : S w)
   (h : WE P md l.toArray n Q S fuel (listed.setIfInBounds i true) (a.put oi.dst v) w) : WE P md l.toArray n Q S (fuel + 1) listed a w := fun inv => by
 simp only [Bool.and_eq_true, decide_eq_true_eq] at hl
 obtain ⟨⟨⟨⟨hl, hs⟩, hf⟩, hr⟩, hin⟩ := hl
 have hi := get_drop hd
 have hr' : i ∈ Region.ready md l.toArray listed := by simpa using hr
 exact wpAnyE_first hi (Region.noSelect_spec hs) hl hin hQ fuel listed a w inv (Region.free_spec hi hf) hr' hy hS (h (inv.set hr' hin))
theorem WE_step {l : List Oper} (i : Nat) {o : Oper} {post : List Oper} {fuel : Nat} {listed : Array Bool} {a : Act} {w : World} (hd : l.drop i = o :: post)
   (hr : (decide (Region.ready md l.toArray listed = [i]) && decide (i < n)) = true)
   (h : ∀ K' : Act → World → Prop, Shut (∀ a w, S w → (S w → WE P md l.toArray n Q S fuel (listed.setIfInBounds i true) a w) → K' a w) → if Region.wanted o (yielded l.toArray a.tmps) = true then Oper.wp P o a w K' Q else K' (a.put o.dst undef) w) :
   WE P md l.toArray n Q S (fuel + 1) listed a w := fun inv => by
 simp only [Bool.and_eq_true, decide_eq_true_eq] at hr
 obtain ⟨hr, hin⟩ := hr
 refine ⟨fun h0 => (by rw [hr] at h0; cases h0), fun j hj => ?_⟩
 obtain rfl : j = i := by rw [hr] at hj; simpa using hj
 exact wpOp_step (get_drop hd) (fun K' hK => h K' (fun a w hS hW => hK a w ⟨fun _ => hS, hW hS (inv.set hj hin)⟩))
theorem WE_last {l : List Oper} {o : Oper} {post : List Oper} {fuel : Nat} {listed : Array Bool} {a : Act} {w : World} (hd : l.drop n = o :: post)
   (hr : (decide (Region.ready md l.toArray listed = [n]) && decide (Region.ready md l.toArray (listed.setIfInBounds n true) = [])) = true)
   (h : ∀ K' : Act → World → Prop, Shut (∀ a w, Q .normal a w → K' a w) → if Region.wanted o (yielded l.toArray a.tmps) = true then Oper.wp P o a w K' Q else K' (a.put o.dst undef) w) :
   WE P md l.toArray n Q S (fuel + 1) listed a w := fun _ => by
 simp only [Bool.and_eq_true, decide_eq_true_eq] at hr
 obtain ⟨hr, hr2⟩ := hr
 refine ⟨fun h0 => (by rw [hr] at h0; cases h0), fun j hj => ?_⟩
 obtain rfl : j = n := by rw [hr] at hj; simpa using hj
 refine wpOp_step (get_drop hd) (fun K' hK => h K' (fun a w hW => hK a w ⟨fun h => absurd h (Nat.lt_irrefl _), ?_⟩))
 cases fuel with
 | zero => exact ⟨hr2, hW⟩
 | succ f => exact ⟨fun _ => hW, fun k hk => by rw [hr2] at hk; cases hk⟩
theorem wp_region_E {id : Nat} {a : Act} {w : World} (n : Nat) (S : World → Prop) (hm : P.follows .mixedOrders = true) (hS : S w.drew)
   (h : S w.drew → WE P .any ops n Q S ops.size (Array.replicate ops.size false) a w.drew) : (Code.region id ops true).wp P Q a w := by
 refine wp_region_any hm (wpAny_of_E (n := n) (S := S) _ _ _ _ (h hS ⟨by simp, fun j oj _ hl => (by rw [getD_replicate_false] at hl; cases hl), fun t _ ht => getD_in (by simpa using ht) (getD_replicate_false _ _)⟩))
end
end Go.Df
namespace Go.Df
open Go
section
variable {P : Program} {Q : Exit → Act → World → Prop} {md : Region.Mode} {S : World → Prop} {n : Nat}
theorem WE_tk {l : List Oper} (i : Nat) {oi : Oper} {post : List Oper} {v : Value} {fuel : Nat} {listed l' : Array Bool} {a a' : Act} {w : World} (h : WE P md l.toArray n Q S fuel l' a' w) (hd : l.drop i = oi :: post := by rfl) (hl : (lastB md l.toArray n && Region.noSelect l.toArray && Region.free md l.toArray listed i && (Region.ready md l.toArray listed).contains i && decide (i < n)) = true := by kernel_rfl) (hQ : ∀ c a w, Q (.panic c) (a.put oi.dst v) w → Q (.panic c) a w := by exact fun _ _ _ h => h) (hw : Region.wanted oi (yielded l.toArray a.tmps) = true := by rfl) (hy : ∀ w9, S w9 → (execOp a.eval oi).run P w9 = .ok (.value v) w9 := by intro w9 hSw; (try dsimp only at hSw); go_simp; try with_reducible rfl) (hS : S w := by assumption) (hl' : listed.setIfInBounds i true = l' := by first | (simp only [Act.put, List.setIfInBounds_toArray, List.set_cons_zero, List.set_cons_succ]; done) | (simp only [Act.put, List.setIfInBounds_toArray, List.set_cons_zero, List.set_cons_succ]; rfl) | rfl) (ha' : a.put oi.dst v = a' := by first | (simp only [Act.put, List.setIfInBounds_toArray, List.set_cons_zero, List.set_cons_succ]; done) | (simp only [Act.put, List.setIfInBounds_toArray, List.set_cons_zero, List.set_cons_succ]; rfl) | rfl) : WE P md l.toArray n Q S (fuel + 1) listed a w := by
 subst hl' ha'
 exact WE_take i hd hl hQ (.inl ⟨hw, hy⟩) hS h
theorem WE_tu {l : List Oper} (i : Nat) {oi : Oper} {post : List Oper} {fuel : Nat} {listed l' : Array Bool} {a a' : Act} {w : World} (h : WE P md l.toArray n Q S fuel l' a' w) (hd : l.drop i = oi :: post := by rfl) (hl : (lastB md l.toArray n && Region.noSelect l.toArray && Region.free md l.toArray listed i && (Region.ready md l.toArray listed).contains i && decide (i < n)) = true := by kernel_rfl) (hQ : ∀ c a w, Q (.panic c) (a.put oi.dst undef) w → Q (.panic c) a w := by exact fun _ _ _ h => h) (hw : Region.wanted oi (yielded l.toArray a.tmps) = false := by rfl) (hS : S w := by assumption) (hl' : listed.setIfInBounds i true = l' := by first | (simp only [Act.put, List.setIfInBounds_toArray, List.set_cons_zero, List.set_cons_succ]; done) | (simp only [Act.put, List.setIfInBounds_toArray, List.set_cons_zero, List.set_cons_succ]; rfl) | rfl) (ha' : a.put oi.dst undef = a' := by first | (simp only [Act.put, List.setIfInBounds_toArray, List.set_cons_zero, List.set_cons_succ]; done) | (simp only [Act.put, List.setIfInBounds_toArray, List.set_cons_zero, List.set_cons_succ]; rfl) | rfl) : WE P md l.toArray n Q S (fuel + 1) listed a w := by
 subst hl' ha'
 exact WE_take i hd hl hQ (.inr ⟨hw, rfl⟩) hS h
end
end Go.Df
namespace Go.Df
open Go.RowKit Go.Maps
def PutT (P : Program) (k tM : TypeId) (z : Value) (w : World) (r N : Nat) (m : Nat → Option Nat) (c : Nat → Nat) (v : Nat → Value → Value) (n : Nat) (key x : Value) (e : Ending) (w' : World) : Prop :=
 ∃ m', e = .returned (.tuple #[]) ∧ Tb P k tM z w' r N m' (fun i => if i = n then c n + 1 else c i) (updV v n key x) ∧ Kept (r :: (m n).toList) w w' ∧ (∀ i, i ≠ n → m' i = m i) ∧ (m' n = m n ∨ (m n = none ∧ ∃ b, m' n = some b ∧ w.heap.size ≤ b))
theorem updV_at (v : Nat → Value → Value) (n : Nat) (key x : Value) : updV v n key x n key = x := by simp [updV]
theorem updV_key (v : Nat → Value → Value) (n : Nat) (key x y : Value) (h : y ≠ key) : updV v n key x n y = v n y := by simp [updV, h]
end Go.Df
namespace Go.Proofs.YtincpmdldpakkaaDoor
open Go.RowKit Go.Df Go.Maps
attribute [local go_sem ↓] Go.wp_at_zero Go.wp_at_succ
theorem Tryd.rowPair : (48 : TypeId) < Tryd.prog.types.size := of_decide_eq_true (by kernel_rfl)
theorem Tryd.deepPair : Tryd.prog.keyTypeAt (Tryd.prog.types.size + 1) 48 = true := by kernel_rfl
theorem Tryd.deepPair2 : Tryd.prog.keyTypeAt 2 48 = true := by kernel_rfl
theorem Tryd.fieldsPair : fieldsOf Tryd.prog 48 = [("In", 3, 0), ("Out", 3, 1)] := by kernel_rfl
theorem Tryd.lawPair : Maps.Keyed Tryd.prog 48 := keyed_struct Tryd.laidOut Tryd.rowPair Tryd.deepPair2 Tryd.fieldsPair (by simp)
theorem Tryd.cellsPair : Tryd.prog.cellsOf 48 = 2 := by kernel_rfl
theorem Tryd.keyPair (a b : Int) (ha : (Lit.int .i64 a).wf = true) (hb : (Lit.int .i64 b).wf = true) : ∃ kl, keyOf Tryd.prog 48 (.agg #[.int .i64 a, .int .i64 b]) = some kl :=
 keyOf_two Tryd.fieldsPair (by decide) (by decide) Tryd.deepPair Tryd.rowPair Tryd.cellsPair Tryd.undInt Tryd.cellsInt a b ha hb
theorem Tryd.zeroX (w : World) : (zeroValue 50).run Tryd.prog w = .ok (.agg #[.int .i64 0, .int .i64 0, .int .i64 0]) w := by kernel_rfl
theorem Tryd.zeroV (w : World) : (zeroValue 56).run Tryd.prog w = .ok (.agg #[.int .i64 0, .int .i64 0]) w := by kernel_rfl
theorem Tryd.zeroL (w : World) : (zeroValue 83).run Tryd.prog w = .ok (.slice none 0 0) w := by kernel_rfl
theorem Tryd.mapPX : Tryd.prog.underlying 79 = some (.map 48 50) := by kernel_rfl
theorem Tryd.mapIL : Tryd.prog.underlying 173 = some (.map 3 83) := by kernel_rfl
theorem Tryd.mapIV : Tryd.prog.underlying 145 = some (.map 3 56) := by kernel_rfl
abbrev TbX (w : World) (r N : Nat) (m : Nat → Option Nat) (c : Nat → Nat) (v : Nat → Value → Value) : Prop := Tb Tryd.prog 48 79 (.agg #[.int .i64 0, .int .i64 0, .int .i64 0]) w r N m c v
abbrev TbL (w : World) (r N : Nat) (m : Nat → Option Nat) (c : Nat → Nat) (v : Nat → Value → Value) : Prop := Tb Tryd.prog 3 173 (.slice none 0 0) w r N m c v
abbrev TbV (w : World) (r N : Nat) (m : Nat → Option Nat) (c : Nat → Nat) (v : Nat → Value → Value) : Prop := Tb Tryd.prog 3 145 (.agg #[.int .i64 0, .int .i64 0]) w r N m c v
set_option maxRecDepth 100000 in
set_option maxHeartbeats 4000000 in
theorem getx_any (r N c0 n : Nat) (a d : Nat) (m : Nat → Option Nat) (c : Nat → Nat) (v : Nat → Value → Value) (w : World) (ht : TbX w r N m c v) (hn : n < N) (ha : a ≤ 1000000) (hd : d ≤ 1000000) (y0 y1 y2 : Int) (hv : v n (.agg #[.int .i64 a, .int .i64 d]) = .agg #[.int .i64 y0, .int .i64 y1, .int .i64 y2]) :
   Calls Tryd.prog 63 #[.agg #[.slice (some ⟨r, 0, none⟩) N c0], .int .i64 n, .agg #[.int .i64 a, .int .i64 d]] w fun e w' => e = .returned (.agg #[.int .i64 y0, .int .i64 y1, .int .i64 y2]) ∧ Below w.heap.size w w' := by
 have HT := Lib.hid ht
 have hrl := ht.rtag.lt
 have HVV := Lib.hid hv
 clear ht hv
 have hn1 : (n : Int) < (N : Int) := by omega
 obtain ⟨kl, hkl⟩ := Tryd.keyPair (a : Int) (d : Int) (WalkArith.wf_i64 (by omega)) (WalkArith.wf_i64 (by omega))
 have HK := Lib.hid hkl
 clear hkl
 go_enter Tryd.func63, Tryd.ntmps63
 go_upto_region 1 with fail
 refine wp_named (fun W => ∃ b0 b1 b2, w.heap.size = b0 ∧ w.heap.size + 1 = b1 ∧ w.heap.size + 1 + 1 = b2 ∧ Blk W b0 [.slice (some ⟨r, 0, none⟩) N c0] ∧ Blk W b1 [.int .i64 a, .int .i64 d] ∧ Blk W b2 [.int .i64 0, .int .i64 0, .int .i64 0] ∧ Below w.heap.size w W) ⟨_, _, _, rfl, rfl, rfl, ?_, ?_, ?_, ?_⟩ ?_
 · exact ((Blk.new _ _ _ _ (by first | rfl | simp)).alloc _).alloc _
 · exact (Blk.new _ _ _ _ (by first | rfl | simp)).alloc _
 · exact Blk.new _ _ _ _ (by first | rfl | simp)
 · go_grown
 rintro W ⟨b0, b1, b2, e0, e1, e2, B0, B1, B2, hB⟩
 rw [e2, e1, e0]
 have G0 : w.heap.size ≤ b0 := by omega
 have n01 : b0 ≠ b1 := by omega
 have n02 : b0 ≠ b2 := by omega
 have G1 : w.heap.size ≤ b1 := by omega
 have n10 : b1 ≠ b0 := by omega
 have n12 : b1 ≠ b2 := by omega
 have G2 : w.heap.size ≤ b2 := by omega
 have n20 : b2 ≠ b0 := by omega
 have n21 : b2 ≠ b1 := by omega
 clear e0 e1 e2
 have ⟨L0, C0, F0⟩ := B0
 have ⟨L1, C1, F1⟩ := B1
 have ⟨L2, C2, F2⟩ := B2
 have hkW : Kept [] w W := (Kept.refl _ _).call hB
 have HTW := Lib.hid (HT.out.kept hkW (by simp) (by simp))
 have hcell := HTW.out.cell hn
 have hrW : r < W.heap.size := HTW.out.rtag.lt
 cases hm : m n with
 | none =>
   rw [hm] at hcell
   have HZ := Lib.hid (HTW.out.no n hn hm (.agg #[.int .i64 a, .int .i64 d]))
   have hrun : (Instr.lookup 79 (.map none) (.agg #[.int .i64 a, .int .i64 d]) false).run Tryd.prog W.drew = .ok (.agg #[.int .i64 y0, .int .i64 y1, .int .i64 y2]) W.drew := by
     have := Maps.look_nil (w := W.drew) false Tryd.lawPair Tryd.mapPX (Tryd.zeroX W.drew) HK.out
     rw [← HZ.out, HVV.out] at this
     simpa using this
   clear hm
   go_wp2_with fail
   refine wp_region_E 7 (fun w' => SX0 W w') (by kernel_rfl) (by (exact kp0)) (fun hHeld => ?_)
   refine WE_tk 0 ?_
   refine WE_tk 1 ?_
   refine WE_tk 2 ?_
   refine WE_tk 3 ?_
   refine WE_tk 4 ?_
   refine WE_tk 5 ?_
   refine WE_step 6 rfl (by kernel_rfl) (fun K hK => ?_)
   go_simp
   refine hK.out _ _ ?_ (fun hHeld => ?_)
   · (exact kp0)
   clear hK K
   try simp only [Act.put, List.setIfInBounds_toArray, List.set_cons_zero, List.set_cons_succ]
   refine WE_last rfl (by kernel_rfl) (fun K hK => ?_)
   go_simp
   refine hK.out _ _ ?_
   clear hK K
   go_wp2_with fail
   refine bodyPost_ret (by simp [results, Tryd.results63, go_sem, *]; rfl) rfl ?_
   refine ⟨rfl, Kept.below (X := [b2]) hB hB.size (by simp; omega) ?_⟩
   exact ((((Kept.refl [b2] W).drew.set b2 0 _ (.inl (by simp))).set b2 1 _ (.inl (by simp))).set b2 2 _ (.inl (by simp)))
 | some b =>
   rw [hm] at hcell
   have hrun : (Instr.lookup 79 (.map (some b)) (.agg #[.int .i64 a, .int .i64 d]) false).run Tryd.prog W.drew = .ok (.agg #[.int .i64 y0, .int .i64 y1, .int .i64 y2]) W.drew := by
     have := ((HTW.out.is n b hn hm).same (w' := W.drew) rfl).look Tryd.lawPair Tryd.mapPX (Tryd.zeroX W.drew) HK.out
     rw [HVV.out] at this
     exact this
   clear hm
   go_wp2_with fail
   refine wp_region_E 7 (fun w' => SX0 W w') (by kernel_rfl) (by (exact kp0)) (fun hHeld => ?_)
   refine WE_tk 0 ?_
   refine WE_tk 1 ?_
   refine WE_tk 2 ?_
   refine WE_tk 3 ?_
   refine WE_tk 4 ?_
   refine WE_tk 5 ?_
   refine WE_step 6 rfl (by kernel_rfl) (fun K hK => ?_)
   go_simp
   refine hK.out _ _ ?_ (fun hHeld => ?_)
   · (exact kp0)
   clear hK K
   try simp only [Act.put, List.setIfInBounds_toArray, List.set_cons_zero, List.set_cons_succ]
   refine WE_last rfl (by kernel_rfl) (fun K hK => ?_)
   go_simp
   refine hK.out _ _ ?_
   clear hK K
   go_wp2_with fail
   refine bodyPost_ret (by simp [results, Tryd.results63, go_sem, *]; rfl) rfl ?_
   refine ⟨rfl, Kept.below (X := [b2]) hB hB.size (by simp; omega) ?_⟩
   exact ((((Kept.refl [b2] W).drew.set b2 0 _ (.inl (by simp))).set b2 1 _ (.inl (by simp))).set b2 2 _ (.inl (by simp)))
set_option maxRecDepth 100000 in
set_option maxHeartbeats 4000000 in
theorem putx_any (r N c0 n : Nat) (a d : Nat) (m : Nat → Option Nat) (c : Nat → Nat) (v : Nat → Value → Value) (y0 y1 y2 : Int) (w : World) (ht : TbX w r N m c v) (hn : n < N) (ha : a ≤ 1000000) (hd : d ≤ 1000000) (hc : c n < maxLen) (hz : ¬ (y0 = 0 ∧ y1 = 0 ∧ y2 = 0)) :
   Calls Tryd.prog 94 #[.agg #[.slice (some ⟨r, 0, none⟩) N c0], .int .i64 n, .agg #[.int .i64 a, .int .i64 d], .agg #[.int .i64 y0, .int .i64 y1, .int .i64 y2]] w (PutT Tryd.prog 48 79 (.agg #[.int .i64 0, .int .i64 0, .int .i64 0]) w r N m c v n (.agg #[.int .i64 a, .int .i64 d]) (.agg #[.int .i64 y0, .int .i64 y1, .int .i64 y2])) := by
 have HT := Lib.hid ht
 have hrl := ht.rtag.lt
 clear ht
 have hn1 : (n : Int) < (N : Int) := by omega
 obtain ⟨kl, hkl⟩ := Tryd.keyPair (a : Int) (d : Int) (WalkArith.wf_i64 (by omega)) (WalkArith.wf_i64 (by omega))
 have HK := Lib.hid hkl
 clear hkl
 have hmm := @run_makeMap Tryd.prog
 have hqm := fun w r => run_eql_map_nil (P := Tryd.prog) w 79 48 50 r Tryd.mapPX
 go_enter Tryd.func94, Tryd.ntmps94
 go_upto_region 1 with fail
 refine wp_named (fun W => ∃ b0 b1 b2, w.heap.size = b0 ∧ w.heap.size + 1 = b1 ∧ w.heap.size + 1 + 1 = b2 ∧ Blk W b0 [.slice (some ⟨r, 0, none⟩) N c0] ∧ Blk W b1 [.int .i64 a, .int .i64 d] ∧ Blk W b2 [.int .i64 y0, .int .i64 y1, .int .i64 y2] ∧ Below w.heap.size w W) ⟨_, _, _, rfl, rfl, rfl, ?_, ?_, ?_, ?_⟩ ?_
 · exact ((Blk.new _ _ _ _ (by first | rfl | simp)).alloc _).alloc _
 · exact (Blk.new _ _ _ _ (by first | rfl | simp)).alloc _
 · exact Blk.new _ _ _ _ (by first | rfl | simp)
 · go_grown
 rintro W ⟨b0, b1, b2, e0, e1, e2, B0, B1, B2, hB⟩
 rw [e2, e1, e0]
 have G0 : w.heap.size ≤ b0 := by omega
 have n01 : b0 ≠ b1 := by omega
 have n02 : b0 ≠ b2 := by omega
 have G1 : w.heap.size ≤ b1 := by omega
 have n10 : b1 ≠ b0 := by omega
 have n12 : b1 ≠ b2 := by omega
 have G2 : w.heap.size ≤ b2 := by omega
 have n20 : b2 ≠ b0 := by omega
 have n21 : b2 ≠ b1 := by omega
 clear e0 e1 e2
 have ⟨L0, C0, F0⟩ := B0
 have ⟨L1, C1, F1⟩ := B1
 have ⟨L2, C2, F2⟩ := B2
 have hkW : Kept [] w W := (Kept.refl _ _).call hB
 have HTW := Lib.hid (HT.out.kept hkW (by simp) (by simp))
 have hcell := HTW.out.cell hn
 have hfr := HTW.out.rtag.frozen n
 have hrW : r < W.heap.size := HTW.out.rtag.lt
 have hb0r : b0 ≠ r := by omega
 have hb1r : b1 ≠ r := by omega
 have hb2r : b2 ≠ r := by omega
 cases hm : m n with
 | none =>
   rw [hm] at hcell
   go_upto_region 3 with fail
   refine wp_named (fun V => ∃ b, W.heap.size = b ∧ TbX V r N (fun i => if i = n then some b else m i) c v ∧ Kept [r] W V) ⟨_, rfl, ?_, ?_⟩ ?_
   · rw [← World.setCell_alloc_past _ _ _ _ hrW]
     exact HTW.out.fresh hn hm rfl
   · exact ((Kept.refl [r] W).set r n _ (.inl (by simp))).alloc _
   rintro V ⟨b, eb, TV, hkV⟩
   have ⟨L0', C0', F0'⟩ := hkV.blk (by simpa using hb0r) B0
   have ⟨L1', C1', F1'⟩ := hkV.blk (by simpa using hb1r) B1
   have ⟨L2', C2', F2'⟩ := hkV.blk (by simpa using hb2r) B2
   have hcV := TV.cell hn
   rw [if_pos rfl] at hcV
   have hrV : r < V.heap.size := TV.rtag.lt
   have MB := TV.is n b hn (if_pos rfl)
   have HTV := Lib.hid TV
   have HMB := Lib.hid MB
   have HM := Lib.hid hm
   clear C0 F0 C1 F1 C2 F2 hcell hfr hm TV MB
   obtain ⟨w9, hrun, hmt, hk9⟩ := (HMB.out.same (w' := V.drew) rfl).store Tryd.lawPair Tryd.mapPX hc HK.out (updV v n (.agg #[.int .i64 a, .int .i64 d]) (.agg #[.int .i64 y0, .int .i64 y1, .int .i64 y2]) n) (updV_at _ _ _ _) (fun x hx => updV_key _ _ _ _ _ hx) (by intro h9; simp at h9; omega)
   refine wp_region_E 7 (fun w' => SX0 V w') (by kernel_rfl) (by (exact kp0)) (fun hHeld => ?_)
   refine WE_tk 0 ?_
   refine WE_tk 1 ?_
   refine WE_tk 2 ?_
   refine WE_tk 3 ?_
   refine WE_tk 4 ?_
   refine WE_tk 5 ?_
   refine WE_tk 6 ?_
   refine WE_last rfl (by kernel_rfl) (fun K hK => ?_)
   go_simp
   refine hK.out _ _ ?_
   clear hK K
   go_wp2_with fail
   go_end0
   replace hk9 : Kept [b] V w9 := ((Kept.refl [b] V).drew).next hk9 (fun y hy => .inl hy)
   have hT := HTV.out.stored hn (if_pos rfl) hk9 hmt
   refine ⟨_, rfl, hT, ?_, fun i hi => if_neg hi, .inr ⟨HM.out, b, if_pos rfl, ?_⟩⟩
   · rw [HM.out]
     have h1 : Kept [r] w V := Kept.next (keptWide hkW (by simp)) hkV (by simp)
     exact h1.next hk9 (by intro y hy; right; simp at hy; subst hy; have := hkW.size; omega)
   · have := hkW.size; omega
 | some b =>
   rw [hm] at hcell
   have HMB := Lib.hid (HTW.out.is n b hn hm)
   have HM := Lib.hid hm
   clear hm
   go_upto_region 3 with fail
   obtain ⟨w9, hrun, hmt, hk9⟩ := (HMB.out.same (w' := W.drew) rfl).store Tryd.lawPair Tryd.mapPX hc HK.out (updV v n (.agg #[.int .i64 a, .int .i64 d]) (.agg #[.int .i64 y0, .int .i64 y1, .int .i64 y2]) n) (updV_at _ _ _ _) (fun x hx => updV_key _ _ _ _ _ hx) (by intro h9; simp at h9; omega)
   refine wp_region_E 7 (fun w' => SX0 W w') (by kernel_rfl) (by (exact kp0)) (fun hHeld => ?_)
   refine WE_tk 0 ?_
   refine WE_tk 1 ?_
   refine WE_tk 2 ?_
   refine WE_tk 3 ?_
   refine WE_tk 4 ?_
   refine WE_tk 5 ?_
   refine WE_tk 6 ?_
   refine WE_last rfl (by kernel_rfl) (fun K hK => ?_)
   go_simp
   refine hK.out _ _ ?_
   clear hK K
   go_wp2_with fail
   go_end0
   replace hk9 : Kept [b] W w9 := ((Kept.refl [b] W).drew).next hk9 (fun y hy => .inl hy)
   have hT := HTW.out.stored hn HM.out hk9 hmt
   refine ⟨_, rfl, hT, ?_, fun i hi => rfl, .inl rfl⟩
   rw [HM.out]
   exact Kept.next (X := r :: [b]) (keptWide hkW (by simp)) hk9 (by simp)
set_option maxRecDepth 100000 in
set_option maxHeartbeats 4000000 in
theorem getl_any (r N c0 n : Nat) (a : Nat) (m : Nat → Option Nat) (c : Nat → Nat) (v : Nat → Value → Value) (w : World) (ht : TbL w r N m c v) (hn : n < N) (ha : a ≤ 1000000)  :
   Calls Tryd.prog 62 #[.agg #[.slice (some ⟨r, 0, none⟩) N c0], .int .i64 n, .int .i64 a] w fun e w' => e = .returned (v n (.int .i64 a)) ∧ Below w.heap.size w w' := by
 have HT := Lib.hid ht
 have hrl := ht.rtag.lt
 clear ht
 have hn1 : (n : Int) < (N : Int) := by omega
 obtain ⟨kl, hkl⟩ : ∃ kl, keyOf Tryd.prog 3 (.int .i64 (a : Int)) = some kl := ⟨_, Tryd.keyInt (a : Int) (WalkArith.wf_i64 (by omega))⟩
 have HK := Lib.hid hkl
 clear hkl
 go_enter Tryd.func62, Tryd.ntmps62
 go_upto_region 1 with fail
 refine wp_named (fun W => ∃ b0, w.heap.size = b0 ∧ Blk W b0 [.slice (some ⟨r, 0, none⟩) N c0] ∧ Below w.heap.size w W) ⟨_, rfl, ?_, ?_⟩ ?_
 · exact Blk.new _ _ _ _ (by first | rfl | simp)
 · go_grown
 rintro W ⟨b0, e0, B0, hB⟩
 rw [e0]
 have G0 : w.heap.size ≤ b0 := by omega
 clear e0
 have ⟨L0, C0, F0⟩ := B0
 have hkW : Kept [] w W := (Kept.refl _ _).call hB
 have HTW := Lib.hid (HT.out.kept hkW (by simp) (by simp))
 have hcell := HTW.out.cell hn
 have hrW : r < W.heap.size := HTW.out.rtag.lt
 cases hm : m n with
 | none =>
   rw [hm] at hcell
   have HZ := Lib.hid (HTW.out.no n hn hm (.int .i64 a))
   have hrun : (Instr.lookup 173 (.map none) (.int .i64 a) false).run Tryd.prog W = .ok (.slice none 0 0) W := by
     have := Maps.look_nil (w := W) false Tryd.lawInt Tryd.mapIL (Tryd.zeroL W) HK.out
     simpa using this
   clear hm
   go_wp2
   go_ret
   rw [HZ.out]
   exact ⟨rfl, hB⟩
 | some b =>
   rw [hm] at hcell
   have hrun : (Instr.lookup 173 (.map (some b)) (.int .i64 a) false).run Tryd.prog W = .ok (v n (.int .i64 a)) W := by
     have := ((HTW.out.is n b hn hm).same (w' := W) rfl).look Tryd.lawInt Tryd.mapIL (Tryd.zeroL W) HK.out
     exact this
   clear hm
   go_wp2
   go_ret
   exact ⟨rfl, hB⟩
set_option maxRecDepth 100000 in
set_option maxHeartbeats 4000000 in
theorem putl_any (r N c0 n : Nat) (a : Nat) (m : Nat → Option Nat) (c : Nat → Nat) (v : Nat → Value → Value) (A : Option Addr) (y0 y1 : Nat) (w : World) (ht : TbL w r N m c v) (hn : n < N) (ha : a ≤ 1000000) (hc : c n < maxLen) (hz : y0 ≠ 0 := by omega) :
   Calls Tryd.prog 92 #[.agg #[.slice (some ⟨r, 0, none⟩) N c0], .int .i64 n, .int .i64 a, .slice A y0 y1] w (PutT Tryd.prog 3 173 (.slice none 0 0) w r N m c v n (.int .i64 a) (.slice A y0 y1)) := by
 have HT := Lib.hid ht
 have hrl := ht.rtag.lt
 clear ht
 have hn1 : (n : Int) < (N : Int) := by omega
 obtain ⟨kl, hkl⟩ : ∃ kl, keyOf Tryd.prog 3 (.int .i64 (a : Int)) = some kl := ⟨_, Tryd.keyInt (a : Int) (WalkArith.wf_i64 (by omega))⟩
 have HK := Lib.hid hkl
 clear hkl
 have hmm := @run_makeMap Tryd.prog
 have hqm := fun w r => run_eql_map_nil (P := Tryd.prog) w 173 3 83 r Tryd.mapIL
 go_enter Tryd.func92, Tryd.ntmps92
 go_upto_region 1 with fail
 refine wp_named (fun W => ∃ b0, w.heap.size = b0 ∧ Blk W b0 [.slice (some ⟨r, 0, none⟩) N c0] ∧ Below w.heap.size w W) ⟨_, rfl, ?_, ?_⟩ ?_
 · exact Blk.new _ _ _ _ (by first | rfl | simp)
 · go_grown
 rintro W ⟨b0, e0, B0, hB⟩
 rw [e0]
 have G0 : w.heap.size ≤ b0 := by omega
 clear e0
 have ⟨L0, C0, F0⟩ := B0
 have hkW : Kept [] w W := (Kept.refl _ _).call hB
 have HTW := Lib.hid (HT.out.kept hkW (by simp) (by simp))
 have hcell := HTW.out.cell hn
 have hfr := HTW.out.rtag.frozen n
 have hrW : r < W.heap.size := HTW.out.rtag.lt
 have hb0r : b0 ≠ r := by omega
 cases hm : m n with
 | none =>
   rw [hm] at hcell
   go_upto_region 3 with fail
   refine wp_named (fun V => ∃ b, W.heap.size = b ∧ TbL V r N (fun i => if i = n then some b else m i) c v ∧ Kept [r] W V) ⟨_, rfl, ?_, ?_⟩ ?_
   · rw [← World.setCell_alloc_past _ _ _ _ hrW]
     exact HTW.out.fresh hn hm rfl
   · exact ((Kept.refl [r] W).set r n _ (.inl (by simp))).alloc _
   rintro V ⟨b, eb, TV, hkV⟩
   have ⟨L0', C0', F0'⟩ := hkV.blk (by simpa using hb0r) B0
   have hcV := TV.cell hn
   rw [if_pos rfl] at hcV
   have hrV : r < V.heap.size := TV.rtag.lt
   have MB := TV.is n b hn (if_pos rfl)
   have HTV := Lib.hid TV
   have HMB := Lib.hid MB
   have HM := Lib.hid hm
   clear C0 F0 hcell hfr hm TV MB
   obtain ⟨w9, hrun, hmt, hk9⟩ := (HMB.out.same (w' := V) rfl).store Tryd.lawInt Tryd.mapIL hc HK.out (updV v n (.int .i64 a) (.slice A y0 y1) n) (updV_at _ _ _ _) (fun x hx => updV_key _ _ _ _ _ hx) (by intro h9; simp at h9; omega)
   go_wp2
   go_end0
   have hT := HTV.out.stored hn (if_pos rfl) hk9 hmt
   refine ⟨_, rfl, hT, ?_, fun i hi => if_neg hi, .inr ⟨HM.out, b, if_pos rfl, ?_⟩⟩
   · rw [HM.out]
     have h1 : Kept [r] w V := Kept.next (keptWide hkW (by simp)) hkV (by simp)
     exact h1.next hk9 (by intro y hy; right; simp at hy; subst hy; have := hkW.size; omega)
   · have := hkW.size; omega
 | some b =>
   rw [hm] at hcell
   have HMB := Lib.hid (HTW.out.is n b hn hm)
   have HM := Lib.hid hm
   clear hm

   obtain ⟨w9, hrun, hmt, hk9⟩ := (HMB.out.same (w' := W) rfl).store Tryd.lawInt Tryd.mapIL hc HK.out (updV v n (.int .i64 a) (.slice A y0 y1) n) (updV_at _ _ _ _) (fun x hx => updV_key _ _ _ _ _ hx) (by intro h9; simp at h9; omega)
   go_wp2
   go_end0
   have hT := HTW.out.stored hn HM.out hk9 hmt
   refine ⟨_, rfl, hT, ?_, fun i hi => rfl, .inl rfl⟩
   rw [HM.out]
   exact Kept.next (X := r :: [b]) (keptWide hkW (by simp)) hk9 (by simp)
set_option maxRecDepth 100000 in
set_option maxHeartbeats 4000000 in
theorem getv_any (r N c0 n : Nat) (a : Nat) (m : Nat → Option Nat) (c : Nat → Nat) (v : Nat → Value → Value) (w : World) (ht : TbV w r N m c v) (hn : n < N) (ha : a ≤ 1000000) (y0 y1 : Int) (hv : v n (.int .i64 a) = .agg #[.int .i64 y0, .int .i64 y1]) :
   Calls Tryd.prog 31 #[.agg #[.slice (some ⟨r, 0, none⟩) N c0], .int .i64 n, .int .i64 a] w fun e w' => e = .returned (.agg #[.int .i64 y0, .int .i64 y1]) ∧ Below w.heap.size w w' := by
 have HT := Lib.hid ht
 have hrl := ht.rtag.lt
 have HVV := Lib.hid hv
 clear ht hv
 have hn1 : (n : Int) < (N : Int) := by omega
 obtain ⟨kl, hkl⟩ : ∃ kl, keyOf Tryd.prog 3 (.int .i64 (a : Int)) = some kl := ⟨_, Tryd.keyInt (a : Int) (WalkArith.wf_i64 (by omega))⟩
 have HK := Lib.hid hkl
 clear hkl
 go_enter Tryd.func31, Tryd.ntmps31
 go_upto_region 1 with fail
 refine wp_named (fun W => ∃ b0 b1, w.heap.size = b0 ∧ w.heap.size + 1 = b1 ∧ Blk W b0 [.slice (some ⟨r, 0, none⟩) N c0] ∧ Blk W b1 [.int .i64 0, .int .i64 0] ∧ Below w.heap.size w W) ⟨_, _, rfl, rfl, ?_, ?_, ?_⟩ ?_
 · exact (Blk.new _ _ _ _ (by first | rfl | simp)).alloc _
 · exact Blk.new _ _ _ _ (by first | rfl | simp)
 · go_grown
 rintro W ⟨b0, b1, e0, e1, B0, B1, hB⟩
 rw [e1, e0]
 have G0 : w.heap.size ≤ b0 := by omega
 have n01 : b0 ≠ b1 := by omega
 have G1 : w.heap.size ≤ b1 := by omega
 have n10 : b1 ≠ b0 := by omega
 clear e0 e1
 have ⟨L0, C0, F0⟩ := B0
 have ⟨L1, C1, F1⟩ := B1
 have hkW : Kept [] w W := (Kept.refl _ _).call hB
 have HTW := Lib.hid (HT.out.kept hkW (by simp) (by simp))
 have hcell := HTW.out.cell hn
 have hrW : r < W.heap.size := HTW.out.rtag.lt
 cases hm : m n with
 | none =>
   rw [hm] at hcell
   have HZ := Lib.hid (HTW.out.no n hn hm (.int .i64 a))
   have hrun : (Instr.lookup 145 (.map none) (.int .i64 a) false).run Tryd.prog W = .ok (.agg #[.int .i64 y0, .int .i64 y1]) W := by
     have := Maps.look_nil (w := W) false Tryd.lawInt Tryd.mapIV (Tryd.zeroV W) HK.out
     rw [← HZ.out, HVV.out] at this
     simpa using this
   clear hm
   go_wp2
   refine bodyPost_ret (by simp [results, Tryd.results31, go_sem, *]; rfl) rfl ?_
   refine ⟨rfl, Kept.below (X := [b1]) hB hB.size (by simp; omega) ?_⟩
   exact (((Kept.refl [b1] W).set b1 0 _ (.inl (by simp))).set b1 1 _ (.inl (by simp)))
 | some b =>
   rw [hm] at hcell
   have hrun : (Instr.lookup 145 (.map (some b)) (.int .i64 a) false).run Tryd.prog W = .ok (.agg #[.int .i64 y0, .int .i64 y1]) W := by
     have := ((HTW.out.is n b hn hm).same (w' := W) rfl).look Tryd.lawInt Tryd.mapIV (Tryd.zeroV W) HK.out
     rw [HVV.out] at this
     exact this
   clear hm
   go_wp2
   refine bodyPost_ret (by simp [results, Tryd.results31, go_sem, *]; rfl) rfl ?_
   refine ⟨rfl, Kept.below (X := [b1]) hB hB.size (by simp; omega) ?_⟩
   exact (((Kept.refl [b1] W).set b1 0 _ (.inl (by simp))).set b1 1 _ (.inl (by simp)))
set_option maxRecDepth 100000 in
set_option maxHeartbeats 4000000 in
theorem putv_any (r N c0 n : Nat) (a : Nat) (m : Nat → Option Nat) (c : Nat → Nat) (v : Nat → Value → Value) (y0 y1 : Int) (w : World) (ht : TbV w r N m c v) (hn : n < N) (ha : a ≤ 1000000) (hc : c n < maxLen) (hz : ¬ (y0 = 0 ∧ y1 = 0)) :
   Calls Tryd.prog 100 #[.agg #[.slice (some ⟨r, 0, none⟩) N c0], .int .i64 n, .int .i64 a, .agg #[.int .i64 y0, .int .i64 y1]] w (PutT Tryd.prog 3 145 (.agg #[.int .i64 0, .int .i64 0]) w r N m c v n (.int .i64 a) (.agg #[.int .i64 y0, .int .i64 y1])) := by
 have HT := Lib.hid ht
 have hrl := ht.rtag.lt
 clear ht
 have hn1 : (n : Int) < (N : Int) := by omega
 obtain ⟨kl, hkl⟩ : ∃ kl, keyOf Tryd.prog 3 (.int .i64 (a : Int)) = some kl := ⟨_, Tryd.keyInt (a : Int) (WalkArith.wf_i64 (by omega))⟩
 have HK := Lib.hid hkl
 clear hkl
 have hmm := @run_makeMap Tryd.prog
 have hqm := fun w r => run_eql_map_nil (P := Tryd.prog) w 145 3 56 r Tryd.mapIV
 go_enter Tryd.func100, Tryd.ntmps100
 go_upto_region 1 with fail
 refine wp_named (fun W => ∃ b0 b1, w.heap.size = b0 ∧ w.heap.size + 1 = b1 ∧ Blk W b0 [.slice (some ⟨r, 0, none⟩) N c0] ∧ Blk W b1 [.int .i64 y0, .int .i64 y1] ∧ Below w.heap.size w W) ⟨_, _, rfl, rfl, ?_, ?_, ?_⟩ ?_
 · exact (Blk.new _ _ _ _ (by first | rfl | simp)).alloc _
 · exact Blk.new _ _ _ _ (by first | rfl | simp)
 · go_grown
 rintro W ⟨b0, b1, e0, e1, B0, B1, hB⟩
 rw [e1, e0]
 have G0 : w.heap.size ≤ b0 := by omega
 have n01 : b0 ≠ b1 := by omega
 have G1 : w.heap.size ≤ b1 := by omega
 have n10 : b1 ≠ b0 := by omega
 clear e0 e1
 have ⟨L0, C0, F0⟩ := B0
 have ⟨L1, C1, F1⟩ := B1
 have hkW : Kept [] w W := (Kept.refl _ _).call hB
 have HTW := Lib.hid (HT.out.kept hkW (by simp) (by simp))
 have hcell := HTW.out.cell hn
 have hfr := HTW.out.rtag.frozen n
 have hrW : r < W.heap.size := HTW.out.rtag.lt
 have hb0r : b0 ≠ r := by omega
 have hb1r : b1 ≠ r := by omega
 cases hm : m n with
 | none =>
   rw [hm] at hcell
   go_upto_region 3 with fail
   refine wp_named (fun V => ∃ b, W.heap.size = b ∧ TbV V r N (fun i => if i = n then some b else m i) c v ∧ Kept [r] W V) ⟨_, rfl, ?_, ?_⟩ ?_
   · rw [← World.setCell_alloc_past _ _ _ _ hrW]
     exact HTW.out.fresh hn hm rfl
   · exact ((Kept.refl [r] W).set r n _ (.inl (by simp))).alloc _
   rintro V ⟨b, eb, TV, hkV⟩
   have ⟨L0', C0', F0'⟩ := hkV.blk (by simpa using hb0r) B0
   have ⟨L1', C1', F1'⟩ := hkV.blk (by simpa using hb1r) B1
   have hcV := TV.cell hn
   rw [if_pos rfl] at hcV
   have hrV : r < V.heap.size := TV.rtag.lt
   have MB := TV.is n b hn (if_pos rfl)
   have HTV := Lib.hid TV
   have HMB := Lib.hid MB
   have HM := Lib.hid hm
   clear C0 F0 C1 F1 hcell hfr hm TV MB
   obtain ⟨w9, hrun, hmt, hk9⟩ := (HMB.out.same (w' := V.drew) rfl).store Tryd.lawInt Tryd.mapIV hc HK.out (updV v n (.int .i64 a) (.agg #[.int .i64 y0, .int .i64 y1]) n) (updV_at _ _ _ _) (fun x hx => updV_key _ _ _ _ _ hx) (by intro h9; simp at h9; omega)
   refine wp_region_E 7 (fun w' => SX0 V w') (by kernel_rfl) (by (exact kp0)) (fun hHeld => ?_)
   refine WE_tk 0 ?_
   refine WE_tk 1 ?_
   refine WE_tk 2 ?_
   refine WE_tk 3 ?_
   refine WE_tk 4 ?_
   refine WE_tk 5 ?_
   refine WE_tk 6 ?_
   refine WE_last rfl (by kernel_rfl) (fun K hK => ?_)
   go_simp
   refine hK.out _ _ ?_
   clear hK K
   go_wp2_with fail
   go_end0
   replace hk9 : Kept [b] V w9 := ((Kept.refl [b] V).drew).next hk9 (fun y hy => .inl hy)
   have hT := HTV.out.stored hn (if_pos rfl) hk9 hmt
   refine ⟨_, rfl, hT, ?_, fun i hi => if_neg hi, .inr ⟨HM.out, b, if_pos rfl, ?_⟩⟩
   · rw [HM.out]
     have h1 : Kept [r] w V := Kept.next (keptWide hkW (by simp)) hkV (by simp)
     exact h1.next hk9 (by intro y hy; right; simp at hy; subst hy; have := hkW.size; omega)
   · have := hkW.size; omega
 | some b =>
   rw [hm] at hcell
   have HMB := Lib.hid (HTW.out.is n b hn hm)
   have HM := Lib.hid hm
   clear hm
   go_upto_region 3 with fail
   obtain ⟨w9, hrun, hmt, hk9⟩ := (HMB.out.same (w' := W.drew) rfl).store Tryd.lawInt Tryd.mapIV hc HK.out (updV v n (.int .i64 a) (.agg #[.int .i64 y0, .int .i64 y1]) n) (updV_at _ _ _ _) (fun x hx => updV_key _ _ _ _ _ hx) (by intro h9; simp at h9; omega)
   refine wp_region_E 7 (fun w' => SX0 W w') (by kernel_rfl) (by (exact kp0)) (fun hHeld => ?_)
   refine WE_tk 0 ?_
   refine WE_tk 1 ?_
   refine WE_tk 2 ?_
   refine WE_tk 3 ?_
   refine WE_tk 4 ?_
   refine WE_tk 5 ?_
   refine WE_tk 6 ?_
   refine WE_last rfl (by kernel_rfl) (fun K hK => ?_)
   go_simp
   refine hK.out _ _ ?_
   clear hK K
   go_wp2_with fail
   go_end0
   replace hk9 : Kept [b] W w9 := ((Kept.refl [b] W).drew).next hk9 (fun y hy => .inl hy)
   have hT := HTW.out.stored hn HM.out hk9 hmt
   refine ⟨_, rfl, hT, ?_, fun i hi => rfl, .inl rfl⟩
   rw [HM.out]
   exact Kept.next (X := r :: [b]) (keptWide hkW (by simp)) hk9 (by simp)
end Go.Proofs.YtincpmdldpakkaaDoor
