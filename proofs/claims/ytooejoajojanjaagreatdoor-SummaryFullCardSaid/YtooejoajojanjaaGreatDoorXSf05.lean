/- Texts: Sj Le Oj Lf Ok. -/
import Derived.Test.YtooejoajojanjaaGreatDoorXSf03
import Derived.Test.YtooejoajojanjaaGreatDoorXSf01
import Derived.StillTail
import Derived.Test.YtooejoajojanjaaGreatDoorXSf04
namespace Go.Df
theorem Kept.next {X Y : List Nat} {W w w' : World} (h : Kept X W w) (h' : Kept Y w w') (hx : ∀ y ∈ Y, y ∈ X ∨ W.heap.size ≤ y) : Kept X W w' :=
 ⟨h'.os.trans h.os, h'.tape.trans h.tape, h'.output.trans h.output, Nat.le_trans h.size h'.size, fun k hk hn => (h'.block k (Nat.lt_of_lt_of_le hk h.size) (fun hm => by rcases hx k hm with h1 | h1; exact hn h1; omega)).trans (h.block k hk hn)⟩
def mv (g : Int → Int) (v : Value) : Lit := match v with | .int .i64 a => .int .i64 (g a) | _ => .int .i64 0
theorem mv_put {g g' : Int → Int} {a : Int} (h : ∀ x, x ≠ a → g' x = g x) : ∀ v, v ≠ .int .i64 a → mv g' v = mv g v := by
 intro v hv
 unfold mv
 split
 · rename_i x
   rw [h x (fun hh => hv (by rw [hh]))]
 · rfl
def mbl (g : Int → Int → Bool) : List Value → Lit
 | [.int .i64 a, .int .i64 b] => .bool (g a b)
 | _ => .bool false
def mb (g : Int → Int → Bool) (v : Value) : Lit := match v with | .agg xs => mbl g xs.toList | _ => .bool false
theorem mbl_put {g g' : Int → Int → Bool} {a b : Int} (h : ∀ x y, ¬ (x = a ∧ y = b) → g' x y = g x y) : ∀ l, l ≠ [.int .i64 a, .int .i64 b] → mbl g' l = mbl g l := by
 intro l hl
 unfold mbl
 split
 · rename_i x y
   exact congrArg _ (h x y (fun hh => hl (by rw [hh.1, hh.2])))
 · rfl
theorem mb_put {g g' : Int → Int → Bool} {a b : Int} (h : ∀ x y, ¬ (x = a ∧ y = b) → g' x y = g x y) : ∀ v, v ≠ .agg #[.int .i64 a, .int .i64 b] → mb g' v = mb g v := by
 intro v hv
 unfold mb
 split
 · rename_i xs
   exact mbl_put h _ (fun hh => hv (by rw [show xs = #[.int .i64 a, .int .i64 b] from Array.ext' hh]))
 · rfl
namespace Sp
def cnt (ns : List Nd) : Nat → Int → Int
 | 0, _ => 0
 | j + 1, f => if (gn ns j).f = f ∧ ((gn ns j).k = 1 ∨ (gn ns j).k = 3 ∨ (gn ns j).k = 4) then cnt ns j f + 1 else cnt ns j f
def lst (ns : List Nd) : Nat → Int → Int
 | 0, _ => 0
 | j + 1, f => if (gn ns j).f = f ∧ (gn ns j).k = 1 then (j : Int) else lst ns j f
def ent (es : List Ed) : Nat → Int → Int → Bool
 | 0, _, _ => false
 | j + 1, x, y => if (ge es j).k = 2 ∧ (ge es j).a = x ∧ (ge es j).b = y then true else ent es j x y
theorem cnt_le (ns : List Nd) (f : Int) : ∀ j : Nat, 0 ≤ cnt ns j f ∧ cnt ns j f ≤ j := by
 intro j
 induction j with
 | zero => simp [cnt]
 | succ j ih => unfold cnt; split <;> omega
theorem lst_le (ns : List Nd) (f : Int) : ∀ j : Nat, 0 ≤ lst ns j f ∧ lst ns j f ≤ j := by
 intro j
 induction j with
 | zero => simp [lst]
 | succ j ih => unfold lst; split <;> omega
theorem ent_iff (es : List Ed) (x y : Int) : ∀ n : Nat, ent es n x y = true ↔ ∃ j, j < n ∧ (ge es j).k = 2 ∧ (ge es j).a = x ∧ (ge es j).b = y := by
 intro n
 induction n with
 | zero => simp [ent]
 | succ n ih =>
   unfold ent
   split
   · rename_i h
     simp only [true_iff]
     exact ⟨n, by omega, h⟩
   · rename_i h
     rw [ih]
     constructor
     · rintro ⟨j, hj, h1⟩; exact ⟨j, by omega, h1⟩
     · rintro ⟨j, hj, h1⟩
       rcases Nat.lt_or_ge j n with h2 | h2
       · exact ⟨j, h2, h1⟩
       · obtain rfl : j = n := by omega
         exact absurd h1 h
def ck (ns : List Nd) (k : Int) : Nat → Int → Int
 | 0, _ => 0
 | j + 1, f => if (gn ns j).f = f ∧ (gn ns j).k = k then ck ns k j f + 1 else ck ns k j f
theorem cnt_ck (ns : List Nd) (f : Int) : ∀ j, cnt ns j f = ck ns 1 j f + ck ns 3 j f + ck ns 4 j f := by
 intro j
 induction j with
 | zero => rfl
 | succ j ih =>
   unfold cnt ck
   by_cases hf : (gn ns j).f = f
   · by_cases h1 : (gn ns j).k = 1
     · simp [hf, h1, ih]; omega
     · by_cases h3 : (gn ns j).k = 3
       · simp [hf, h3, ih]; omega
       · by_cases h4 : (gn ns j).k = 4
         · simp [hf, h4, ih]; omega
         · simp [h1, h3, h4, ih]
   · simp [hf, ih]
theorem ck_zero {ns : List Nd} {k f : Int} : ∀ {n : Nat}, (∀ i, i < n → ¬ ((gn ns i).f = f ∧ (gn ns i).k = k)) → ck ns k n f = 0 := by
 intro n
 induction n with
 | zero => intro _; rfl
 | succ n ih => intro h; unfold ck; rw [if_neg (h n (by omega))]; exact ih (fun i hi => h i (by omega))
theorem ck_nn {ns : List Nd} {k f : Int} : ∀ n : Nat, 0 ≤ ck ns k n f := by
 intro n
 induction n with
 | zero => simp [ck]
 | succ n ih => unfold ck; split <;> omega
theorem ck_pos {ns : List Nd} {k f : Int} {i : Nat} : ∀ {n : Nat}, i < n → (gn ns i).f = f → (gn ns i).k = k → 1 ≤ ck ns k n f := by
 intro n
 induction n with
 | zero => intro h; omega
 | succ n ih =>
   intro h h1 h2
   unfold ck
   have := @ck_nn ns k f n
   split
   · omega
   · rename_i h3
     rcases Nat.lt_or_ge i n with h4 | h4
     · exact ih h4 h1 h2
     · obtain rfl : i = n := by omega
       exact absurd ⟨h1, h2⟩ h3
theorem ck_one {ns : List Nd} {k f : Int} : ∀ {n : Nat}, (∀ i j, i < j → j < n → (gn ns i).f = f → (gn ns i).k = k → (gn ns j).f = f → (gn ns j).k = k → False) → ck ns k n f ≤ 1 := by
 intro n
 induction n with
 | zero => intro _; simp [ck]
 | succ n ih =>
   intro h
   unfold ck
   split
   · rename_i h1
     rw [ck_zero (fun i hi hh => h i n hi (by omega) hh.1 hh.2 h1.1 h1.2)]
     omega
   · exact ih (fun i j hi hj => h i j hi (by omega))
theorem lessN_trans {a b c : Nd} (h1 : lessN a b = true) (h2 : lessN b c = true) : lessN a c = true := by
 unfold lessN at *
 grind
theorem node_less {ns : List Nd} {j : Nat} (h : nodeErr ns j = 0) (hj : 0 < j) : lessN (gn ns (j - 1)) (gn ns j) = true := by
 unfold nodeErr at h
 split at h
 · cases h
 · split at h
   · cases h
   · split at h
     · cases h
     · rename_i h3
       simp only [hj, true_and, Bool.not_eq_false] at h3
       exact h3
theorem node_asc {ns : List Nd} {n : Nat} (h : ∀ x, x < n → nodeErr ns x = 0) : ∀ j i, i < j → j < n → lessN (gn ns i) (gn ns j) = true := by
 intro j
 induction j with
 | zero => intro i hi; omega
 | succ j ih =>
   intro i hi hj
   have h1 := node_less (h (j + 1) hj) (by omega)
   rw [Nat.add_sub_cancel] at h1
   rcases Nat.lt_or_ge i j with h2 | h2
   · exact lessN_trans (ih i h2 (by omega)) h1
   · obtain rfl : i = j := by omega
     exact h1
theorem node_i {ns : List Nd} {j : Nat} (h : nodeErr ns j = 0) (hk : (gn ns j).k ≠ 2) : (gn ns j).i = -1 := by
 unfold nodeErr at h
 split at h
 · cases h
 · split at h
   · cases h
   · rename_i h3
     rcases Int.lt_or_le (gn ns j).f 0 with h4 | h4
     · exact absurd (Or.inl h4) h3
     · exact Classical.byContradiction (fun h5 => h3 (Or.inr (Or.inr ⟨hk, h5⟩)))
theorem node_once {ns : List Nd} {n : Nat} (h : ∀ x, x < n → nodeErr ns x = 0) {i j : Nat} (hij : i < j) (hj : j < n) {f k : Int} (hk : k ≠ 2) (h1 : (gn ns i).f = f) (h2 : (gn ns i).k = k) (h3 : (gn ns j).f = f) (h4 : (gn ns j).k = k) : False := by
 have h5 := node_asc h j i hij hj
 have h6 := node_i (h i (by omega)) (by rw [h2]; exact hk)
 have h7 := node_i (h j hj) (by rw [h4]; exact hk)
 unfold lessN at h5
 simp [h1, h2, h3, h4, h6, h7] at h5
theorem kind_neg {ns : List Nd} {f k : Int} : kindAt ns f k < 0 ↔ ∀ j, j < ns.length → ¬ ((gn ns j).f = f ∧ (gn ns j).k = k) := by
 constructor
 · intro h j hj hh
   unfold kindAt at h
   split at h
   · omega
   · rename_i h1
     rw [List.findIdx?_eq_none_iff] at h1
     have := h1 _ (List.getElem_mem hj)
     rw [← gn_lt hj] at this
     simp [hh.1, hh.2] at this
 · intro h
   rw [kind_miss (fun j hj => by have := h j hj; simp only [Bool.and_eq_false_iff, beq_eq_false_iff_ne]; exact Classical.or_iff_not_imp_left.mpr (fun h1 h2 => this ⟨Classical.not_not.mp h1, h2⟩))]
   omega
theorem ck_kind {ns : List Nd} (h : ∀ x, x < ns.length → nodeErr ns x = 0) {f k : Int} (hk : k ≠ 2) : ck ns k ns.length f = if kindAt ns f k < 0 then 0 else 1 := by
 have h1 : ck ns k ns.length f ≤ 1 := ck_one (fun i j hij hj a b c d => node_once h hij hj hk a b c d)
 split
 · rename_i h2
   exact ck_zero (kind_neg.mp h2)
 · rename_i h2
   rw [kind_neg] at h2
   obtain ⟨j, hj⟩ := Classical.not_forall.mp h2
   obtain ⟨hj1, hj2⟩ := Classical.not_imp.mp hj
   have h3 := Classical.not_not.mp hj2
   have := ck_pos hj1 h3.1 h3.2
   omega
theorem cnt_whole {ns : List Nd} (h : ∀ x, x < ns.length → nodeErr ns x = 0) (j : Nat) : wholeErr ns j = if cnt ns ns.length (gn ns j).f = 3 then 0 else 1 := by
 rw [cnt_ck, ck_kind h (by omega), ck_kind h (by omega), ck_kind h (by omega)]
 unfold wholeErr
 by_cases h1 : kindAt ns (gn ns j).f 1 < 0 <;> by_cases h3 : kindAt ns (gn ns j).f 3 < 0 <;> by_cases h4 : kindAt ns (gn ns j).f 4 < 0 <;> simp [h1, h3, h4]
theorem lst_is {ns : List Nd} {f : Int} : ∀ {n : Nat}, n ≤ ns.length → (∃ i, i < n ∧ (gn ns i).f = f ∧ (gn ns i).k = 1) → ∃ s : Nat, lst ns n f = s ∧ s < n ∧ (gn ns s).f = f ∧ (gn ns s).k = 1 := by
 intro n
 induction n with
 | zero => rintro _ ⟨i, hi, -⟩; omega
 | succ n ih =>
   rintro hn ⟨i, hi, h1, h2⟩
   unfold lst
   split
   · rename_i h3
     exact ⟨n, rfl, by omega, h3.1, h3.2⟩
   · rename_i h3
     have : i < n := by
       rcases Nat.lt_or_ge i n with h4 | h4
       · exact h4
       · obtain rfl : i = n := by omega
         exact absurd ⟨h1, h2⟩ h3
     obtain ⟨s, a, b, c⟩ := ih (by omega) ⟨i, this, h1, h2⟩
     exact ⟨s, a, by omega, c⟩
theorem ent_calls {ns : List Nd} {es : List Ed} (h : ∀ x, x < ns.length → nodeErr ns x = 0) {f : Int} (hf : ∃ i, i < ns.length ∧ (gn ns i).f = f ∧ (gn ns i).k = 1) (c : Int) : ent es es.length c (lst ns ns.length f) = callsB ns es c f := by
 obtain ⟨s, hs, hlt, h1, h2⟩ := lst_is (Nat.le_refl _) hf
 rw [hs]
 have key : ∀ j, callB ns c f (ge es j) = true ↔ ((ge es j).k = 2 ∧ (ge es j).a = c ∧ (ge es j).b = (s : Int)) := by
   intro j
   unfold callB
   simp only [Bool.and_eq_true, decide_eq_true_eq]
   constructor
   · rintro ⟨⟨⟨⟨⟨a1, a2⟩, a3⟩, a4⟩, a5⟩, a6⟩
     refine ⟨a1, a2, ?_⟩
     have h7 : (ge es j).b.toNat < ns.length := by omega
     rcases Nat.lt_trichotomy (ge es j).b.toNat s with h8 | h8 | h8
     · exact absurd (node_once h h8 hlt (k := 1) (by omega) a5 a6 h1 h2) id
     · omega
     · exact absurd (node_once h h8 h7 (k := 1) (by omega) h1 h2 a5 a6) id
   · rintro ⟨a1, a2, a3⟩
     have : (ge es j).b.toNat = s := by omega
     rw [this]
     exact ⟨⟨⟨⟨⟨a1, a2⟩, by omega⟩, by omega⟩, h1⟩, h2⟩
 cases hb : callsB ns es c f with
 | false =>
   cases he : ent es es.length c s with
   | false => rfl
   | true =>
     obtain ⟨j, hj, hh⟩ := (ent_iff es c s es.length).mp he
     rw [calls_hit hj ((key j).mpr hh)] at hb
     cases hb
 | true =>
   unfold callsB at hb
   rw [List.any_eq_true] at hb
   obtain ⟨x, hx, hb⟩ := hb
   obtain ⟨j, hj, rfl⟩ := List.getElem_of_mem hx
   rw [← ge_lt hj] at hb
   exact (ent_iff es c s es.length).mpr ⟨j, hj, (key j).mp hb⟩
end Sp
end Go.Df
namespace Go.Df
open Go
section
variable {P : Program} {ops : Array Oper} {Q : Exit → Act → World → Prop} {md : Region.Mode} {S : World → Prop} {n : Nat}
def wpAnyE (P : Program) (md : Region.Mode) (ops : Array Oper) (n : Nat) (Q : Exit → Act → World → Prop) (S : World → Prop) : Nat → Array Bool → Act → World → Prop
 | 0, listed, a, w => Region.ready md ops listed = [] ∧ Q .normal a w
 | fuel + 1, listed, a, w =>
   (Region.ready md ops listed = [] → Q .normal a w) ∧
   ∀ i ∈ Region.ready md ops listed, wpOp P ops Q i (fun a' w' => (i < n → S w') ∧ wpAnyE P md ops n Q S fuel (listed.setIfInBounds i true) a' w') a w
theorem wpAny_of_E : ∀ (fuel : Nat) (listed : Array Bool) (a : Act) (w : World), wpAnyE P md ops n Q S fuel listed a w → wpAny P md ops Q fuel listed a w
 | 0, _, _, _, h => h
 | fuel + 1, _, _, _, h => ⟨h.1, fun i hi => wpOp_mono (fun a' w' h' => wpAny_of_E fuel _ a' w' h'.2) (h.2 i hi)⟩
def lastB (md : Region.Mode) (ops : Array Oper) (n : Nat) : Bool := Region.sinkB md ops n && Region.chainB md ops n && decide (n < ops.size)
theorem wpAnyE_first {i : Nat} {oi : Oper} {v : Value} (hi : ops[i]? = some oi) (hsel : ∀ (j : Nat) (o : Oper) cs b, ops[j]? = some o → o.op ≠ .select cs b)
   (hl : lastB md ops n = true) (hin : i < n)
   (hQ : ∀ c a w, Q (.panic c) (a.put oi.dst v) w → Q (.panic c) a w) :
   ∀ (fuel : Nat) (listed : Array Bool) (a : Act) (w : World), HeadInv md ops n listed →
     (∀ j oj, ops[j]? = some oj → j ≠ i → listed.getD j true = false → (∀ e ∈ oj.after, Region.binds md e = true → e.on ≠ i) → oi.apart ops oj = true) →
     i ∈ Region.ready md ops listed → YieldsIf P ops S oi v a → S w →
     wpAnyE P md ops n Q S fuel (listed.setIfInBounds i true) (a.put oi.dst v) w → wpAnyE P md ops n Q S (fuel + 1) listed a w := by
 simp only [lastB, Bool.and_eq_true, decide_eq_true_eq] at hl
 obtain ⟨⟨hs, hc⟩, hn⟩ := hl
 intro fuel
 induction fuel with
 | zero =>
   intro listed a w _ _ hr hy hS H
   refine ⟨fun h => (by rw [h] at hr; cases hr), fun j hj => ?_⟩
   by_cases hji : j = i
   · subst hji; exact hy.wpOp hi hS ⟨fun _ => hS, H⟩
   · have := ready_mono hj hji
     rw [H.1] at this
     cases this
 | succ fuel ih =>
   intro listed a w inv hfree hr hy hS H
   refine ⟨fun h => (by rw [h] at hr; cases hr), fun j hj => ?_⟩
   by_cases hji : j = i
   · subst hji; exact hy.wpOp hi hS ⟨fun _ => hS, H⟩
   · have hun := (mem_ready.1 hr).1
     have hjn : j < n := by
       rcases Nat.lt_or_ge j n with h | h
       · exact h
       · exact absurd hj (tail_waits hs hc hn inv _ i rfl hin hun j h)
     have h1 := H.2 j (ready_mono hj hji)
     obtain ⟨hjun, oj, hoj, hall⟩ := mem_ready.1 hj
     have hnot : ∀ e ∈ oj.after, Region.binds md e = true → e.on ≠ i := fun e he hb heq => by
       have h1 := hall e he hb
       rw [heq, getD_both hun] at h1
       cases h1
     have h2 := wpOp_putIf hoj (hfree j oj hoj hji hjun hnot) (fun cs b => hsel i oi cs b hi) (fun cs b => hsel j oj cs b hoj) hQ hy h1
     have hfree' : ∀ k ok, ops[k]? = some ok → k ≠ i → (listed.setIfInBounds j true).getD k true = false →
         (∀ e ∈ ok.after, Region.binds md e = true → e.on ≠ i) → oi.apart ops ok = true := fun k ok hk hki hun hno => by
       refine hfree k ok hk hki ?_ hno
       by_cases hjk : j = k
       · subst hjk; exact hjun
       · rw [getD_set_ne true hjk] at hun; exact hun
     refine wpOp_mono (fun a' w' h3 => ⟨fun _ => h3.2.1 hjn, ih (listed.setIfInBounds j true) a' w' (inv.set hj hjn) hfree' (ready_mono hr (Ne.symm hji)) h3.1 (h3.2.1 hjn) ?_⟩) h2
     rw [Array.setIfInBounds_comm _ _ hji]
     exact h3.2.2
def WE (P : Program) (md : Region.Mode) (ops : Array Oper) (n : Nat) (Q : Exit → Act → World → Prop) (S : World → Prop) (fuel : Nat) (listed : Array Bool) (a : Act) (w : World) : Prop :=
 HeadInv md ops n listed → wpAnyE P md ops n Q S fuel listed a w
theorem get_drop {l : List Oper} {i : Nat} {oi : Oper} {post : List Oper} (hd : l.drop i = oi :: post) : (l.toArray)[i]? = some oi := by
 have h : (l.drop i)[0]? = some oi := by rw [hd]; rfl
 rw [List.getElem?_drop] at h
 simpa using h
theorem WE_take {l : List Oper} (i : Nat) {oi : Oper} {post : List Oper} {v : Value} {fuel : Nat} {listed : Array Bool} {a : Act} {w : World} (hd : l.drop i = oi :: post)
   (hl : (lastB md l.toArray n && Region.noSelect l.toArray && Region.free md l.toArray listed i && (Region.ready md l.toArray listed).contains i && decide (i < n)) = true)
   (hQ : ∀ c a w, Q (.panic c) (a.put oi.dst v) w → Q (.panic c) a w) (hy : YieldsIf P l.toArray S oi v a) (hS : S w)
   (h : WE P md l.toArray n Q S fuel (listed.setIfInBounds i true) (a.put oi.dst v) w) : WE P md l.toArray n Q S (fuel + 1) listed a w := fun inv => by
 simp only [Bool.and_eq_true, decide_eq_true_eq] at hl
 obtain ⟨⟨⟨⟨hl, hs⟩, hf⟩, hr⟩, hin⟩ := hl
 have hi := get_drop hd
 have hr' : i ∈ Region.ready md l.toArray listed := by simpa using hr
 exact wpAnyE_first hi (Region.noSelect_spec hs) hl hin hQ fuel listed a w inv (Region.free_spec hi hf) hr' hy hS (h (inv.set hr' hin))
theorem WE_step {l : List Oper} (i : Nat) {o : Oper} {post : List Oper} {fuel : Nat} {listed : Array Bool} {a : Act} {w : World} (hd : l.drop i = o :: post)
   (hr : (decide (Region.ready md l.toArray listed = [i]) && decide (i < n)) = true)
   (h : ∀ K' : Act → World → Prop, Shut (∀ a w, S w → (S w → WE P md l.toArray n Q S fuel (listed.setIfInBounds i true) a w) → K' a w) → if Region.wanted o (yielded l.toArray a.tmps) = true then Oper.wp P o a w K' Q else K' (a.put o.dst undef) w) :
   WE P md l.toArray n Q S (fuel + 1) listed a w := fun inv => by
 simp only [Bool.and_eq_true, decide_eq_true_eq] at hr
 obtain ⟨hr, hin⟩ := hr
 refine ⟨fun h0 => (by rw [hr] at h0; cases h0), fun j hj => ?_⟩
 obtain rfl : j = i := by rw [hr] at hj; simpa using hj
 exact wpOp_step (get_drop hd) (fun K' hK => h K' (fun a w hS hW => hK a w ⟨fun _ => hS, hW hS (inv.set hj hin)⟩))
theorem WE_last {l : List Oper} {o : Oper} {post : List Oper} {fuel : Nat} {listed : Array Bool} {a : Act} {w : World} (hd : l.drop n = o :: post)
   (hr : (decide (Region.ready md l.toArray listed = [n]) && decide (Region.ready md l.toArray (listed.setIfInBounds n true) = [])) = true)
   (h : ∀ K' : Act → World → Prop, Shut (∀ a w, Q .normal a w → K' a w) → if Region.wanted o (yielded l.toArray a.tmps) = true then Oper.wp P o a w K' Q else K' (a.put o.dst undef) w) :
   WE P md l.toArray n Q S (fuel + 1) listed a w := fun _ => by
 simp only [Bool.and_eq_true, decide_eq_true_eq] at hr
 obtain ⟨hr, hr2⟩ := hr
 refine ⟨fun h0 => (by rw [hr] at h0; cases h0), fun j hj => ?_⟩
 obtain rfl : j = n := by rw [hr] at hj; simpa using hj
 refine wpOp_step (get_drop hd) (fun K' hK => h K' (fun a w hW => hK a w ⟨fun h => absurd h (Nat.lt_irrefl _), ?_⟩))
 cases fuel with
 | zero => exact ⟨hr2, hW⟩
 | succ f => exact ⟨fun _ => hW, fun k hk => by rw [hr2] at hk; cases hk⟩
theorem wp_region_E {id : Nat} {a : Act} {w : World} (n : Nat) (S : World → Prop) (hm : P.follows .mixedOrders = true) (hS : S w.drew)
   (h : S w.drew → WE P .any ops n Q S ops.size (Array.replicate ops.size false) a w.drew) : (Code.region id ops true).wp P Q a w := by
 refine wp_region_any hm (wpAny_of_E (n := n) (S := S) _ _ _ _ (h hS ⟨by simp, fun j oj _ hl => (by rw [getD_replicate_false] at hl; cases hl), fun t _ ht => getD_in (by simpa using ht) (getD_replicate_false _ _)⟩))
end
end Go.Df
namespace Go.Df
open Go
section
variable {P : Program} {Q : Exit → Act → World → Prop} {md : Region.Mode} {S : World → Prop} {n : Nat}
theorem WE_tk {l : List Oper} (i : Nat) {oi : Oper} {post : List Oper} {v : Value} {fuel : Nat} {listed l' : Array Bool} {a a' : Act} {w : World} (h : WE P md l.toArray n Q S fuel l' a' w) (hd : l.drop i = oi :: post := by rfl) (hl : (lastB md l.toArray n && Region.noSelect l.toArray && Region.free md l.toArray listed i && (Region.ready md l.toArray listed).contains i && decide (i < n)) = true := by kernel_rfl) (hQ : ∀ c a w, Q (.panic c) (a.put oi.dst v) w → Q (.panic c) a w := by exact fun _ _ _ h => h) (hw : Region.wanted oi (yielded l.toArray a.tmps) = true := by rfl) (hy : ∀ w9, S w9 → (execOp a.eval oi).run P w9 = .ok (.value v) w9 := by intro w9 hSw; (try dsimp only at hSw); go_simp; try with_reducible rfl) (hS : S w := by assumption) (hl' : listed.setIfInBounds i true = l' := by first | (simp only [Act.put, List.setIfInBounds_toArray, List.set_cons_zero, List.set_cons_succ]; done) | (simp only [Act.put, List.setIfInBounds_toArray, List.set_cons_zero, List.set_cons_succ]; rfl) | rfl) (ha' : a.put oi.dst v = a' := by first | (simp only [Act.put, List.setIfInBounds_toArray, List.set_cons_zero, List.set_cons_succ]; done) | (simp only [Act.put, List.setIfInBounds_toArray, List.set_cons_zero, List.set_cons_succ]; rfl) | rfl) : WE P md l.toArray n Q S (fuel + 1) listed a w := by
 subst hl' ha'
 exact WE_take i hd hl hQ (.inl ⟨hw, hy⟩) hS h
theorem WE_tu {l : List Oper} (i : Nat) {oi : Oper} {post : List Oper} {fuel : Nat} {listed l' : Array Bool} {a a' : Act} {w : World} (h : WE P md l.toArray n Q S fuel l' a' w) (hd : l.drop i = oi :: post := by rfl) (hl : (lastB md l.toArray n && Region.noSelect l.toArray && Region.free md l.toArray listed i && (Region.ready md l.toArray listed).contains i && decide (i < n)) = true := by kernel_rfl) (hQ : ∀ c a w, Q (.panic c) (a.put oi.dst undef) w → Q (.panic c) a w := by exact fun _ _ _ h => h) (hw : Region.wanted oi (yielded l.toArray a.tmps) = false := by rfl) (hS : S w := by assumption) (hl' : listed.setIfInBounds i true = l' := by first | (simp only [Act.put, List.setIfInBounds_toArray, List.set_cons_zero, List.set_cons_succ]; done) | (simp only [Act.put, List.setIfInBounds_toArray, List.set_cons_zero, List.set_cons_succ]; rfl) | rfl) (ha' : a.put oi.dst undef = a' := by first | (simp only [Act.put, List.setIfInBounds_toArray, List.set_cons_zero, List.set_cons_succ]; done) | (simp only [Act.put, List.setIfInBounds_toArray, List.set_cons_zero, List.set_cons_succ]; rfl) | rfl) : WE P md l.toArray n Q S (fuel + 1) listed a w := by
 subst hl' ha'
 exact WE_take i hd hl hQ (.inr ⟨hw, rfl⟩) hS h
theorem WE_put {l : List Oper} {fuel : Nat} {listed l' : Array Bool} {a a' : Act} {w : World} (h : WE P md l.toArray n Q S fuel l' a' w) (hl' : listed = l' := by first | (simp only [Act.put, List.setIfInBounds_toArray, List.set_cons_zero, List.set_cons_succ]; done) | (simp only [Act.put, List.setIfInBounds_toArray, List.set_cons_zero, List.set_cons_succ]; rfl) | rfl) (ha' : a = a' := by first | (simp only [Act.put, List.setIfInBounds_toArray, List.set_cons_zero, List.set_cons_succ]; done) | (simp only [Act.put, List.setIfInBounds_toArray, List.set_cons_zero, List.set_cons_succ]; rfl) | rfl) : WE P md l.toArray n Q S fuel listed a w := by
 subst hl' ha'
 exact h
end
end Go.Df
namespace Go.Df
open Go.RowKit
theorem own_keptT {X : List Nat} {w w1 : World} {base : Nat} {e : TypeId} {k : Nat} {v : Value} {n : Nat} {xs : List Value} (h : w.ownsRow base e k v n xs) (hk : Kept X w w1) (hX : ∀ g, v.ownBlock = some g → g ∉ X) : w1.ownsRow base e k v n xs := by
 refine ⟨h.1, ?_⟩
 rcases h.2 with h2 | ⟨g, cap, cur, rfl, h3, h4, h5⟩
 · exact .inl h2
 · exact .inr ⟨g, cap, cur, rfl, h3, (hk.block g (Array.getElem?_eq_some_iff.1 h4).1 (hX g rfl)).trans h4, h5⟩
theorem own_cellsT {w : World} {base : Nat} {e : TypeId} {k n : Nat} {v : Value} {xs : List Value} (h : w.ownsRow base e k v n xs) (h0 : 0 < n) :
   ∃ g c, v = .slice (some ⟨g, 0, none⟩) n c ∧ base ≤ g ∧ g < w.heap.size ∧ n ≤ c ∧ c ≤ maxLen ∧ (∀ i, i < n * k → w.cell? ⟨g, i, none⟩ = xs[i]?) ∧ ∀ i, w.frozen? ⟨g, i, none⟩ = false := by
 rcases h.2 with ⟨rfl, rfl⟩ | ⟨g, cap, cur, rfl, hb, hh, hnc, hcm, hcs, htk⟩
 · omega
 · refine ⟨g, cap, rfl, hb, ?_, hnc, hcm, fun i hi => ?_, fun i => ?_⟩
   · rcases Nat.lt_or_ge g w.heap.size with h1 | h1
     · exact h1
     · rw [Array.getElem?_eq_none h1] at hh; cases hh
   · rw [← htk, List.getElem?_take_of_lt hi]
     simp [World.cell?, hh]
   · simp [World.frozen?, hh]
abbrev SXu (X : List Nat) (ga gb : Nat) (W w' : World) : Prop := Kept X W w' ∧ (∀ o, w'.cell? ⟨ga, o, none⟩ = W.cell? ⟨ga, o, none⟩) ∧ (∀ o, w'.cell? ⟨gb, o, none⟩ = W.cell? ⟨gb, o, none⟩)
theorem SXu.of {X : List Nat} {ga gb : Nat} {W w' : World} (h : Kept X W w') (ha : ga < W.heap.size) (hb : gb < W.heap.size) (xa : ga ∉ X) (xb : gb ∉ X) : SXu X ga gb W w' := ⟨h, fun o => h.cell ga o ha xa, fun o => h.cell gb o hb xb⟩
theorem own_addr {w : World} {base : Nat} {e : TypeId} {k n m c : Nat} {A : Option Addr} {xs : List Value} (h : w.ownsRow base e k (.slice A m c) n xs) {a : Addr} (ha : A = some a) : base ≤ a.block ∧ Tag w a.block e ∧ (Value.slice A m c).ownBlock = some a.block := by
 rcases h.2 with ⟨h1, _⟩ | ⟨g, cap, cur, h1, h2, h3, _⟩
 · injection h1 with h1 _ _; rw [h1] at ha; cases ha
 · injection h1 with h1 _ _
   rw [h1] at ha
   injection ha with ha
   subst ha
   subst h1
   exact ⟨h2, ⟨cur, h3⟩, rfl⟩
namespace If
theorem ints_keptT {X : List Nat} {w w' : World} {A : Option Addr} {m : Nat} {l : List Int} (h : Ints w A m l) (hk : Kept X w w') (hA : ∀ a, A = some a → a.block ∉ X) : Ints w' A m l :=
 ⟨h.1, fun hn => by
   obtain ⟨b, o, e, hl, hc⟩ := h.2 hn
   exact ⟨b, o, e, Nat.lt_of_lt_of_le hl hk.size, fun i hi => (hk.cell b (o + i) hl (hA _ e)).trans (hc i hi)⟩⟩
end If
end Go.Df
namespace Go.Proofs.YtooejoajojanjaaGreatDoor
open Go.RowKit Go.Df Go.Df.If
theorem booli_info : (Tryz.prog.info? 4).map (fun i => (i.zero, i.size, i.bytes)) = some (some (.bool false), 1, 1) := by kernel_rfl
theorem retNamedT {P : Program} {f : Func} {Q : Ending → World → Prop} {e : Exit} {a : Act} {w : World} (S : World → Prop) (h0 : S w) (h : ∀ X, S X → bodyPost P f Q e a X) : bodyPost P f Q e a w := h w h0
theorem inti_info : (Tryz.prog.info? 3).map (fun i => (i.zero, i.size, i.bytes)) = some (some (.int .i64 0), 1, 8) := by kernel_rfl
end Go.Proofs.YtooejoajojanjaaGreatDoor
namespace Go.Df
open Go
def Grow (w : World) (t : Nat → Nat) (w' : World) (t' : Nat → Nat) : Prop := Kept [] w w' ∧ ∀ g, g < w.heap.size → t' g = t g
theorem Grow.refl (w : World) (t : Nat → Nat) : Grow w t w t := ⟨Kept.refl _ _, fun _ _ => rfl⟩
theorem Grow.trans {w w' w'' : World} {t t' t'' : Nat → Nat} (h : Grow w t w' t') (h' : Grow w' t' w'' t'') : Grow w t w'' t'' :=
 ⟨keptTrans h.1 h'.1, fun g hg => (h'.2 g (Nat.lt_of_lt_of_le hg h.1.size)).trans (h.2 g hg)⟩
def mark (t : Nat → Nat) (g m : Nat) : Nat → Nat := fun x => if x = g then m else t x
theorem mark_same (t : Nat → Nat) (g m : Nat) : mark t g m g = m := if_pos rfl
theorem Grow.mark {w w' : World} {t : Nat → Nat} {g m : Nat} (h : Kept [] w w') (hg : w.heap.size ≤ g) : Grow w t w' (Go.Df.mark t g m) :=
 ⟨h, fun x hx => if_neg (by omega)⟩
theorem Grow.keep {w w' : World} {t : Nat → Nat} (h : Kept [] w w') : Grow w t w' t := ⟨h, fun _ _ => rfl⟩
structure BlkT (w : World) (t : Nat → Nat) (g : Nat) (C : List Value) (m : Nat) : Prop where
 blk : Blk w g C
 tag : t g = m
theorem BlkT.grow {w w' : World} {t t' : Nat → Nat} {g m : Nat} {C : List Value} (h : BlkT w t g C m) (hg : Grow w t w' t') : BlkT w' t' g C m := ⟨hg.1.blk (by simp) h.blk, (hg.2 g h.blk.1).trans h.tag⟩
theorem BlkT.ne {w : World} {t : Nat → Nat} {g g' m m' : Nat} {C C' : List Value} (h : BlkT w t g C m) (h' : BlkT w t g' C' m') (hm : m ≠ m') : g ≠ g' := fun e => hm (by rw [← h.tag, ← h'.tag, e])
theorem BlkT.new (w : World) (t : Nat → Nat) (C : List Value) (ty : TypeId) (m : Nat) : BlkT (w.alloc (.cells C.toArray ty)) (Go.Df.mark t w.heap.size m) w.heap.size C m := ⟨Blk.new _ _ _ _ rfl, mark_same _ _ _⟩
section
variable {P : Program} {Q : Exit → Act → World → Prop} {md : Region.Mode} {S : World → Prop} {n : Nat} {l : List Oper}
def dstOf (l : List Oper) (j : Nat) : Option Tmp := (l[j]?).bind (·.dst)
def putU (l : List Oper) : List Nat → (Nat → Value) → Act → Act
 | [], _, a => a
 | j :: U, vs, a => putU l U vs (a.put (dstOf l j) (vs j))
theorem putU_congr : ∀ (U : List Nat) {vs us : Nat → Value} {a : Act}, (∀ j ∈ U, vs j = us j) → putU l U vs a = putU l U us a
 | [], _, _, _, _ => rfl
 | j :: U, vs, us, a, h => by
   rw [putU, putU, h j (by simp)]
   exact putU_congr U (fun i hi => h i (by simp [hi]))
theorem put_put (a : Act) (x : Option Tmp) (u v : Value) : (a.put x u).put x v = a.put x v := by
 cases x with
 | none => rfl
 | some d => simp [Act.put]
theorem putU_comm {x : Option Tmp} {v : Value} : ∀ (U : List Nat) {vs : Nat → Value} {a : Act}, (∀ j ∈ U, dstOf l j ≠ x) → (putU l U vs a).put x v = putU l U vs (a.put x v)
 | [], _, _, _ => rfl
 | j :: U, vs, a, h => by
   rw [putU, putU, putU_comm U (fun i hi => h i (by simp [hi])), Act.put_comm a (vs j) v (fun d hd => by rw [← hd]; exact (h j (by simp)).symm)]
def upd (vs : Nat → Value) (i : Nat) (v : Value) : Nat → Value := fun j => if j = i then v else vs j
theorem putU_upd {i : Nat} {v : Value} : ∀ (U : List Nat) {vs : Nat → Value} {a : Act}, i ∈ U → U.Pairwise (fun x y => dstOf l x ≠ dstOf l y ∧ x ≠ y) → (putU l U vs a).put (dstOf l i) v = putU l U (upd vs i v) a
 | j :: U, vs, a, hi, hp => by
   obtain ⟨h1, h2⟩ := List.pairwise_cons.1 hp
   by_cases e : j = i
   · subst e
     rw [putU, putU, putU_comm U (fun y hy => (h1 y hy).1.symm), put_put]
     rw [show upd vs j v j = v from if_pos rfl]
     exact putU_congr U (fun y hy => (if_neg (h1 y hy).2.symm).symm)
   · have hi' : i ∈ U := by simpa [Ne.symm e] using hi
     rw [putU, putU, putU_upd U hi' h2, show upd vs i v j = vs j from if_neg e]
theorem put_self (a : Act) (x : Option Tmp) : ∃ v, a.put x v = a := by
 cases x with
 | none => exact ⟨undef, rfl⟩
 | some d =>
   refine ⟨a.tmps.getD d undef, ?_⟩
   unfold Act.put
   dsimp only
   rcases Nat.lt_or_ge d a.tmps.size with h | h
   · have : a.tmps.setIfInBounds d (a.tmps.getD d undef) = a.tmps := by
       rw [Array.setIfInBounds_def, dif_pos h]
       simp [h]
     rw [this]
   · rw [Array.setIfInBounds_eq_of_size_le h]
theorem putU_self : ∀ (U : List Nat) (a : Act), U.Pairwise (fun x y => dstOf l x ≠ dstOf l y ∧ x ≠ y) → ∃ vs, putU l U vs a = a
 | [], _, _ => ⟨fun _ => undef, rfl⟩
 | j :: U, a, hp => by
   obtain ⟨h1, h2⟩ := List.pairwise_cons.1 hp
   obtain ⟨vs, hv⟩ := putU_self U a h2
   obtain ⟨v, hw⟩ := put_self a (dstOf l j)
   refine ⟨upd vs j v, ?_⟩
   rw [putU, show upd vs j v j = v from if_pos rfl, hw]
   exact (putU_congr (vs := upd vs j v) (us := vs) U (fun y hy => if_neg (h1 y hy).2.symm)).trans hv
def HypsR (R : Nat → Value → World → (Nat → Nat) → Prop) (vs : Nat → Value) (w : World) (t : Nat → Nat) : List Nat → Prop
 | [] => True
 | j :: D => R j (vs j) w t ∧ HypsR R vs w t D
theorem HypsR.of {R : Nat → Value → World → (Nat → Nat) → Prop} {vs : Nat → Value} {w : World} {t : Nat → Nat} : ∀ (D : List Nat), (∀ j ∈ D, R j (vs j) w t) → HypsR R vs w t D
 | [], _ => trivial
 | j :: D, h => ⟨h j (by simp), HypsR.of D (fun i hi => h i (by simp [hi]))⟩
def ObR (P : Program) (md : Region.Mode) (Q : Exit → Act → World → Prop) (l : List Oper) (U : List Nat) (R : Nat → Value → World → (Nat → Nat) → Prop) (fr : (Nat → Value) → Act) (w0 : World) (t0 : Nat → Nat) (j : Nat) : Prop :=
 ∃ o post, l.drop j = o :: post ∧ ∃ D : List Nat, (D.all fun i => Region.waitsFor md l.toArray j i && U.contains i) = true ∧ ∀ vs w t, Grow w0 t0 w t → HypsR R vs w t D → ∀ K' : Act → World → Prop, Shut (∀ v a2 w2 t2, a2 = (fr vs).put o.dst v → Grow w t w2 t2 → R j v w2 t2 → K' a2 w2) →
   if Region.wanted o (yielded l.toArray (fr vs).tmps) = true then Oper.wp P o (fr vs) w K' Q else K' ((fr vs).put o.dst undef) w
def ObsR (P : Program) (md : Region.Mode) (Q : Exit → Act → World → Prop) (l : List Oper) (U0 : List Nat) (R : Nat → Value → World → (Nat → Nat) → Prop) (fr : (Nat → Value) → Act) (w0 : World) (t0 : Nat → Nat) : List Nat → Prop
 | [] => True
 | j :: U => ObR P md Q l U0 R fr w0 t0 j ∧ ObsR P md Q l U0 R fr w0 t0 U
theorem ObsR.get {U0 : List Nat} {R : Nat → Value → World → (Nat → Nat) → Prop} {fr : (Nat → Value) → Act} {w0 : World} {t0 : Nat → Nat} : ∀ {U : List Nat}, ObsR P md Q l U0 R fr w0 t0 U → ∀ {j : Nat}, j ∈ U → ObR P md Q l U0 R fr w0 t0 j
 | i :: U, h, j, hj => by
   rcases List.mem_cons.1 hj with rfl | hj
   · exact h.1
   · exact ObsR.get h.2 hj
def openB (md : Region.Mode) (l : List Oper) (n : Nat) (U : List Nat) (listed : Array Bool) : Bool :=
 lastB md l.toArray n && decide (l.length = n + 1) && ((List.range n).all fun j => U.contains j == !listed.getD j true) && (U.all fun j => decide (j < n)) && decide (U.Pairwise (fun x y => dstOf l x ≠ dstOf l y ∧ x ≠ y)) &&
   ((List.range l.length).all fun i => match l[i]? with | some o => o.after.all (fun e => !Region.binds md e || decide (e.on < i)) | none => true)
def unl (l : List Oper) (listed : Array Bool) : List Nat := (List.range l.length).filter fun j => !listed.getD j true
theorem unl_set {listed : Array Bool} {i : Nat} (hi : listed.getD i true = false) (hl : i < l.length) : (unl l (listed.setIfInBounds i true)).length + 1 ≤ (unl l listed).length := by
 unfold unl
 have h1 : ∀ j ∈ List.range l.length, (!(listed.setIfInBounds i true).getD j true) = (!listed.getD j true && (j != i)) := fun j hj => by
   by_cases e : i = j
   · subst e
     have : (listed.setIfInBounds i true).getD i true = true := by
       rcases Nat.lt_or_ge i listed.size with h | h
       · simp [h]
       · simp [h]
     rw [this]; simp
   · rw [getD_set_ne true e]
     have : (j != i) = true := by simpa using Ne.symm e
     rw [this, Bool.and_true]
 rw [List.filter_congr h1]
 rw [show (fun j => !listed.getD j true && (j != i)) = fun j => (fun j => !listed.getD j true) j && (j != i) from rfl]
 rw [← List.filter_filter]
 have hm : i ∈ (List.range l.length).filter (fun j => !listed.getD j true) := by
   rw [List.mem_filter]
   exact ⟨List.mem_range.2 hl, by rw [hi]; rfl⟩
 generalize hL : (List.range l.length).filter (fun j => !listed.getD j true) = L at hm
 have hlt : (L.filter (fun j => j != i)).length < L.length := by
   rcases Nat.lt_or_ge (L.filter (fun j => j != i)).length L.length with h | h
   · exact h
   · have h2 := List.length_filter_le (fun j => j != i) L
     have h3 : ∀ x ∈ L, (x != i) = true := List.length_filter_eq_length_iff.1 (by omega)
     have := h3 i hm
     simp at this
 have hcomm : (List.range l.length).filter (fun j => j != i) = (List.range l.length).filter (fun j => j != i) := rfl
 have : ((List.range l.length).filter (fun j => j != i)).filter (fun j => !listed.getD j true) = L.filter (fun j => j != i) := by
   rw [← hL, List.filter_filter, List.filter_filter]
   exact List.filter_congr (fun x _ => Bool.and_comm _ _)
 first
   | (rw [this]; omega)
   | omega
theorem WE_R_go {U : List Nat} {R : Nat → Value → World → (Nat → Nat) → Prop} {fr : (Nat → Value) → Act} {a0 : Act} {w0 : World} {t0 : Nat → Nat}
   (hl : lastB md l.toArray n = true) (hlen : l.length = n + 1) (hUn : ∀ j ∈ U, j < n) (hpw : U.Pairwise (fun x y => dstOf l x ≠ dstOf l y ∧ x ≠ y))
   (hed : ∀ i o, l[i]? = some o → ∀ e ∈ o.after, Region.binds md e = true → e.on < i)
   (hfr : ∀ vs, putU l U vs a0 = fr vs) (hR : ∀ j ∈ U, ∀ v w t w' t', R j v w t → Grow w t w' t' → R j v w' t') (hS : ∀ w t, Grow w0 t0 w t → S w)
   (ob : ObsR P md Q l U R fr w0 t0 U)
   {o : Oper} {post : List Oper} (hd : l.drop n = o :: post)
   (last : ∀ vs w t, Grow w0 t0 w t → HypsR R vs w t U → ∀ K' : Act → World → Prop, Shut (∀ a w, Q .normal a w → K' a w) → if Region.wanted o (yielded l.toArray (fr vs).tmps) = true then Oper.wp P o (fr vs) w K' Q else K' ((fr vs).put o.dst undef) w) :
   ∀ (fuel : Nat) (listed : Array Bool) (vs : Nat → Value) (w : World) (t : Nat → Nat), HeadInv md l.toArray n listed → (unl l listed).length ≤ fuel → (∀ j, j < n → listed.getD j true = false → j ∈ U) → Grow w0 t0 w t → (∀ j ∈ U, listed.getD j true = true → R j (vs j) w t) →
     wpAnyE P md l.toArray n Q S fuel listed (fr vs) w := by
 have hl' := hl
 simp only [lastB, Bool.and_eq_true, decide_eq_true_eq] at hl
 obtain ⟨⟨hs, hc⟩, hn⟩ := hl
 intro fuel
 induction fuel with
 | zero =>
   intro listed vs w t inv hf _ _ _
   have h1 := inv.tail n (Nat.le_refl _) hn
   have h2 : n ∈ unl l listed := by
     unfold unl
     rw [List.mem_filter]
     exact ⟨List.mem_range.2 (by omega), by rw [h1]; rfl⟩
   have := List.length_pos_of_mem h2
   omega
 | succ fuel ih =>
   intro listed vs w t inv hf hopen hg hRs
   have hsz : listed.size = l.length := by rw [inv.size]; simp
   refine ⟨fun h0 => ?_, fun i hi => ?_⟩
   · -- the least one that is open can come up
     exfalso
     have hex : ∃ j, listed.getD j true = false := ⟨n, inv.tail n (Nat.le_refl _) hn⟩
     have hmin : ∀ k j, j ≤ k → listed.getD j true = false → ∃ i, listed.getD i true = false ∧ ∀ i', i' < i → listed.getD i' true ≠ false := by
       intro k
       induction k with
       | zero => intro j hj hh; exact ⟨j, hh, fun i' hi' => by omega⟩
       | succ k ihk =>
         intro j hj hh
         by_cases hx : ∃ i', i' < j ∧ listed.getD i' true = false
         · obtain ⟨i', h1, h2⟩ := hx
           exact ihk i' (by omega) h2
         · exact ⟨j, hh, fun i' hi' h2 => hx ⟨i', hi', h2⟩⟩
     obtain ⟨j, hj⟩ := hex
     obtain ⟨i, hi, hlow⟩ := hmin j j (Nat.le_refl _) hj
     have hil : i < l.length := by
       rcases Nat.lt_or_ge i l.length with h | h
       · exact h
       · have : listed.getD i true = true := by simp [hsz, h]
         rw [hi] at this; cases this
     have hm : i ∈ Region.ready md l.toArray listed := by
       refine mem_ready.2 ⟨hi, l[i], by simp [hil], fun e he hb => ?_⟩
       have h1 := hed i l[i] (by simp [hil]) e he hb
       have h2 := hlow e.on h1
       have h3 : listed.getD e.on true = true := by
         cases hh : listed.getD e.on true with
         | true => rfl
         | false => exact absurd hh h2
       have h4 : e.on < listed.size := by omega
       simp [h4] at h3 ⊢
       exact h3
     rw [h0] at hm
     cases hm
   · obtain ⟨hiun, oi, hoi, hall⟩ := mem_ready.1 hi
     have hil : i < l.length := by
       have := (Array.getElem?_eq_some_iff.1 hoi).1
       simpa using this
     rcases Nat.lt_or_ge i n with hin | hin
     · have hiU := hopen i hin hiun
       obtain ⟨o', post', hd', D, hD, hob⟩ := ob.get hiU
       have ho' : oi = o' := by
         have := get_drop hd'
         rw [hoi] at this
         exact Option.some.inj this
       subst ho'
       refine wpOp_step hoi (fun K' hK => hob vs w t hg (HypsR.of D fun j hj => ?_) K' (fun v a2 w2 t2 ha hg2 hr2 => hK a2 w2 ⟨fun _ => hS w2 t2 (hg.trans hg2), ?_⟩))
       · have h1 := List.all_eq_true.1 hD j hj
         simp only [Bool.and_eq_true] at h1
         obtain ⟨oj, hoj, e, he, hb, hon⟩ := Region.waitsFor_spec h1.1
         have : oj = oi := Option.some.inj (hoj.symm.trans hoi)
         subst this
         have h2 := hall e he hb
         rw [hon] at h2
         refine hRs j (by simpa using h1.2) ?_
         cases hh : listed.getD j true with
         | true => rfl
         | false => rw [getD_both hh] at h2; cases h2
       · have hdst : dstOf l i = oi.dst := by
           unfold dstOf
           have : l[i]? = some oi := by simpa using hoi
           rw [this]; rfl
         rw [ha, ← hdst, ← hfr, putU_upd U hiU hpw, hfr]
         have hun := unl_set (l := l) hiun hil
         refine ih (listed.setIfInBounds i true) (upd vs i v) w2 t2 (inv.set hi hin) (by omega) (fun j hj hjl => ?_) (hg.trans hg2) (fun j hj hjl => ?_)
         · by_cases e : i = j
           · subst e; exact hiU
           · rw [getD_set_ne true e] at hjl; exact hopen j hj hjl
         · by_cases e : j = i
           · subst e; rw [show upd vs j v j = v from if_pos rfl]; exact hr2
           · rw [show upd vs i v j = vs j from if_neg e]
             rw [getD_set_ne true (Ne.symm e)] at hjl
             exact hR j hj _ _ _ _ _ (hRs j hj hjl) hg2
     · obtain rfl : i = n := by omega
       have hdone : ∀ j, j < i → listed.getD j true = true := fun j hj => by
         cases hh : listed.getD j true with
         | true => rfl
         | false => exact absurd hi (tail_waits hs hc hn inv _ j rfl hj hh i (Nat.le_refl _))
       have ho' : oi = o := by
         have := get_drop hd
         rw [hoi] at this
         exact Option.some.inj this
       subst ho'
       have hr2 : Region.ready md l.toArray (listed.setIfInBounds i true) = [] := by
         refine List.eq_nil_iff_forall_not_mem.2 fun j hj => ?_
         obtain ⟨h1, oj, hoj, -⟩ := mem_ready.1 hj
         by_cases e : i = j
         · subst e
           have : (listed.setIfInBounds i true).getD i true = true := by
             rcases Nat.lt_or_ge i listed.size with h | h
             · simp [h]
             · simp [h]
           rw [this] at h1; cases h1
         · rw [getD_set_ne true e] at h1
           have hjl : j < l.length := by
             have := (Array.getElem?_eq_some_iff.1 hoj).1
             simpa using this
           rw [hdone j (by omega)] at h1
           cases h1
       refine wpOp_step hoi (fun K' hK => last vs w t hg (HypsR.of U fun j hj => hRs j hj (hdone j (hUn j hj))) K' (fun a w hW => hK a w ⟨fun h => absurd h (Nat.lt_irrefl _), ?_⟩))
       cases fuel with
       | zero => exact ⟨hr2, hW⟩
       | succ f => exact ⟨fun _ => hW, fun k hk => by rw [hr2] at hk; cases hk⟩
theorem WE_R (U : List Nat) (R : Nat → Value → World → (Nat → Nat) → Prop) {fr : (Nat → Value) → Act} {fuel : Nat} {listed : Array Bool} {a : Act} {w : World} {o : Oper} {post : List Oper} (hd : l.drop n = o :: post)
   (hU : (openB md l n U listed && decide ((unl l listed).length ≤ fuel)) = true)
   (hfr : ∀ vs, putU l U vs a = fr vs) (hR : ∀ j ∈ U, ∀ v w t w' t', R j v w t → Grow w t w' t' → R j v w' t') (hS : ∀ w' t', Grow w (fun _ => 0) w' t' → S w')
   (ob : ObsR P md Q l U R fr w (fun _ => 0) U)
   (last : ∀ vs w' t', Grow w (fun _ => 0) w' t' → HypsR R vs w' t' U → ∀ K' : Act → World → Prop, Shut (∀ a w, Q .normal a w → K' a w) → if Region.wanted o (yielded l.toArray (fr vs).tmps) = true then Oper.wp P o (fr vs) w' K' Q else K' ((fr vs).put o.dst undef) w') :
   WE P md l.toArray n Q S fuel listed a w := fun inv => by
 simp only [openB, Bool.and_eq_true, decide_eq_true_eq] at hU
 obtain ⟨⟨⟨⟨⟨⟨h1, h2⟩, h3⟩, h4⟩, h5⟩, h6⟩, h7⟩ := hU
 have hUn : ∀ j ∈ U, j < n := fun j hj => by simpa using List.all_eq_true.1 h4 j hj
 have hop : ∀ j, j < n → (j ∈ U ↔ listed.getD j true = false) := fun j hj => by
   have := List.all_eq_true.1 h3 j (List.mem_range.2 hj)
   simp only [beq_iff_eq] at this
   constructor
   · intro hh
     have hc : U.contains j = true := by simpa using hh
     rw [hc] at this
     simpa using this.symm
   · intro hh
     rw [hh] at this
     simpa using this
 have hed : ∀ i o, l[i]? = some o → ∀ e ∈ o.after, Region.binds md e = true → e.on < i := fun i o ho e he hb => by
   have hil : i < l.length := (List.getElem?_eq_some_iff.1 ho).1
   have := List.all_eq_true.1 h6 i (List.mem_range.2 hil)
   rw [ho] at this
   dsimp only at this
   have := Array.all_eq_true_iff_forall_mem.1 this e he
   simp [hb] at this
   exact this
 obtain ⟨vs, hvs⟩ := putU_self (l := l) U a h5
 have := WE_R_go (S := S) h1 h2 hUn h5 hed hfr hR hS ob hd last fuel listed vs w (fun _ => 0) inv h7 (fun j hj hh => (hop j hj).2 hh) (Grow.refl _ _) (fun j hj hh => by
   have h9 := (hop j (hUn j hj)).1 hj
   rw [h9] at hh; cases hh)
 rw [← hfr, hvs] at this
 exact this
end
end Go.Df
namespace Go.Df
open Go.RowKit
def ofNats (l : List Nat) : List Int := l.map fun (x : Nat) => (x : Int)
theorem made_one (v : Value) (n : Nat) : madeCells #[v] n = (List.replicate n v).toArray := by
 apply Array.ext_getElem?
 intro j
 rcases Nat.lt_or_ge j n with h | h
 · simp [madeCells, h, Nat.mod_one]
 · simp [madeCells, h]
theorem ofNats_len (l : List Nat) : (ofNats l).length = l.length := by simp [ofNats]
theorem run_make1 {P : Program} {t e : TypeId} {i : TypeInfo} {z : Value} {bytes : Nat} (ht : P.underlying t = some (.slice e)) (hi : P.info? e = some i) (hz : i.zero = some z) (hsize : i.size = 1) (hby : i.bytes = bytes) (hzc : z.cells = #[z]) (n : Nat) (hbytes : bytes * n ≤ 281474976710656) (h63 : n ≤ 9223372036854775807) (M : Array Value) (hM : (List.replicate n z).toArray = M) (w : World) :
   (Instr.makeSlice t (.int .i64 (n : Int)) (.int .i64 (n : Int))).run P w = .ok (.slice (some ⟨w.heap.size, 0, none⟩) n n) (w.alloc (.cells M e)) := by
 subst hby
 have hrun := run_make (P := P) w t e i z ht hi hz .i64 .i64 (n : Int) (n : Int) (by omega) (Int.le_refl _) (by rw [← Int.natCast_mul]; omega) (by omega)
 simp only [Int.toNat_natCast, hsize, Nat.mul_one, hzc, made_one, hM] at hrun
 exact hrun
theorem act_named {F : Act → World → Prop} {a : Act} {w : World} (S : World → Prop) (h0 : S w) (h : ∀ W, S W → F a W) : F a w := h w h0
theorem rep_at {n i : Nat} {v : Value} (h : i < n) : (List.replicate n v).toArray[i]? = some v := by simp [h]
abbrev SXt (X : List Nat) (ga gb gc : Nat) (W w' : World) : Prop := Kept X W w' ∧ (∀ o, w'.cell? ⟨ga, o, none⟩ = W.cell? ⟨ga, o, none⟩) ∧ (∀ o, w'.cell? ⟨gb, o, none⟩ = W.cell? ⟨gb, o, none⟩) ∧ (∀ o, w'.cell? ⟨gc, o, none⟩ = W.cell? ⟨gc, o, none⟩)
theorem SXt.of {X : List Nat} {ga gb gc : Nat} {W w' : World} (h : Kept X W w') (ha : ga < W.heap.size) (hb : gb < W.heap.size) (hc : gc < W.heap.size) (xa : ga ∉ X) (xb : gb ∉ X) (xc : gc ∉ X) : SXt X ga gb gc W w' := ⟨h, fun o => h.cell ga o ha xa, fun o => h.cell gb o hb xb, fun o => h.cell gc o hc xc⟩
theorem filter_one {f : Nat → Bool} (k : Nat) : (List.range (k + 1)).filter f = if f k = true then (List.range k).filter f ++ [k] else (List.range k).filter f := by
 rw [List.range_succ, List.filter_append]
 by_cases h : f k = true
 · simp [h]
 · simp [h]
theorem ofNats_snoc (l : List Nat) (k : Nat) : ofNats (l ++ [k]) = ofNats l ++ [(k : Int)] := by simp [ofNats]
theorem own_kept2 {X : List Nat} {w w1 : World} {base : Nat} {e : TypeId} {k : Nat} {v : Value} {n : Nat} {xs : List Value} (h : w.ownsRow base e k v n xs) (hk : Kept X w w1) (hX : ∀ g, v.ownBlock = some g → g ∉ X) : w1.ownsRow base e k v n xs := by
 refine ⟨h.1, ?_⟩
 rcases h.2 with h2 | ⟨g, cap, cur, rfl, h3, h4, h5⟩
 · exact .inl h2
 · exact .inr ⟨g, cap, cur, rfl, h3, (hk.block g (Array.getElem?_eq_some_iff.1 h4).1 (hX g rfl)).trans h4, h5⟩
theorem own_lt2 {w : World} {base : Nat} {e : TypeId} {k : Nat} {v : Value} {n : Nat} {xs : List Value} (h : w.ownsRow base e k v n xs) {g : Nat} (hg : v.ownBlock = some g) : g < w.heap.size := (own_tag h hg).lt
end Go.Df
namespace Go.Proofs.YtooejoajojanjaaGreatDoor
open Go.RowKit Go.Df
theorem row_info : (Tryz.prog.info? 31).map (fun i => (i.zero, i.size, i.bytes)) = some (some (.slice none 0 0), 1, 24) := by kernel_rfl
end Go.Proofs.YtooejoajojanjaaGreatDoor
