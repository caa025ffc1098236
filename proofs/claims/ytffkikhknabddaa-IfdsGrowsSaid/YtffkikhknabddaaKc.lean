/- A walk over a map whose elements are kept as they are (keys: int). No program in sight. -/
import Derived.Test.YtffkikhknabddaaMc
import Derived.Maps.RangeWalk
import Derived.Laws.IdiomRangeMap
namespace Go.Df
open Go.RowKit Go.Maps Go.ChangeMaps
/-- A walk under way over a map: left says which keys are still to come, cnt how many. -/
def RgT (P : Program) (k : TypeId) (z : Value) (w : World) (b r n : Nat) (f : Value → Value) (left : Lit → Bool) (cnt : Nat) : Prop :=
  ∃ D : DataW Value, w.ranges P k tokElem b r n D left cnt ∧ ∀ key kl, keyOf P k key = some kl → D.atKey kl (.held z) = .held (f key)
variable {P : Program} {k : TypeId} {z : Value} {w w' : World} {b r n : Nat} {f : Value → Value} {left : Lit → Bool} {cnt : Nat}
theorem RgT.left_eq (h : RgT P k z w b r n f left cnt) : w.rangeLeft b r = cnt := let ⟨_, h1, _⟩ := h; h1.left_eq
theorem RgT.lt (h : RgT P k z w b r n f left cnt) : r < w.heap.size := let ⟨_, h1, _⟩ := h; h1.lt
theorem RgT.grown {row : Option Nat} (h : RgT P k z w b r n f left cnt) (hg : w.grownBy w' row) (hb : some b ≠ row) (hr : some r ≠ row) : RgT P k z w' b r n f left cnt :=
  let ⟨D, h1, h2⟩ := h; ⟨D, h1.kept hg hb hr, h2⟩
theorem grown_of_kept {X : List Nat} (h : Kept X w w') (hX : X = []) : w.grownBy w' none := by
  subst hX
  exact ⟨h.os, h.tape, h.output, h.size, fun i hi _ => h.block i hi (by simp)⟩
theorem kept_of_grown {row : Option Nat} (h : w.grownBy w' row) : Kept row.toList w w' :=
  ⟨h.os, h.tape, h.output, h.size, fun i hi hn => h.block i hi (fun e => hn (by rw [← e]; simp))⟩
theorem RgT.kept {X : List Nat} (h : RgT P k z w b r n f left cnt) (hk : Kept X w w') (hb : b ∉ X) (hr : r ∉ X) : RgT P k z w' b r n f left cnt := by
  obtain ⟨D, ⟨es, clock, since, seen, c0, h1, F, hs, hD, h2, rest⟩, h3⟩ := h
  have hlb := (Array.getElem?_eq_some_iff.1 h1).1
  have hlr := (Array.getElem?_eq_some_iff.1 h2).1
  exact ⟨D, ⟨es, clock, since, seen, c0, (hk.block b hlb hb).trans h1, F, hs, hD, (hk.block r hlr hr).trans h2, rest⟩, h3⟩
section
variable {ops : Array Oper} {rest : List Oper} {o : Oper} {a : Act} {Q : Exit → Act → World → Prop}
theorem wpList_range_mapT (hg : o.guard = none) (m : Operand) (t : TypeId) (hop : o.op = Op.range t m) (e : TypeId) (K : Keyed P k) (ht : P.underlying t = some (.map k e))
    (hm : a.eval m = .map (some b)) (hown : MapT P k z w b n f)
    (hK : ∀ w' left cnt, RgT P k z w' b w.heap.size n f left cnt → (∀ key kl, keyOf P k key = some kl → left kl = false → f key = z) → Kept [] w w' → w'.heap.size = w.heap.size + 1 → wpList P ops Q rest (a.put o.dst (.pointer (some ⟨w.heap.size, 0, none⟩))) w') :
    wpList P ops Q (o :: rest) a w := by
  obtain ⟨D, h1, h2⟩ := hown
  refine wpList_range_own w hg m t hop k e K ht tokElem b n D hm h1 fun w' hr hgr hsz => ?_
  refine hK w' _ _ ⟨D, hr, h2⟩ (fun key kl hk hl => ?_) (kept_of_grown hgr) hsz
  have h3 := h2 key kl hk
  rw [atKey_of_not_has hl] at h3
  injection h3 with h3
  exact h3.symm
theorem wpList_next_mapT (hg : o.guard = none) (it : Operand) (hop : o.op = Op.next it false) (q : IntKind) (K : Keyed P k) (hk : P.underlying k = some (.int q))
    (hit : a.eval it = .pointer (some ⟨r, 0, none⟩)) (h : RgT P k z w b r n f left cnt)
    (hDone : cnt = 0 → (∀ kl, left kl = false) → wpList P ops Q rest (a.put o.dst (.tuple #[.bool false])) w)
    (hMore : ∀ (x : Int) (w' : World) (cnt' : Nat), (Lit.int q x).wf = true → left (.int q x) = true → RgT P k z w' b r n f (fun y => left y && !y.sameKey (.int q x)) cnt' → cnt' < cnt → Kept [r] w w' → w'.heap.size = w.heap.size →
      (Instr.entry (.pointer (some ⟨r, 0, none⟩))).run P w' = .ok (.tuple #[.int q x, f (.int q x)]) w' → wpList P ops Q rest (a.put o.dst (.tuple #[.bool true, .int q x, f (.int q x)])) w') :
    wpList P ops Q (o :: rest) a w := by
  obtain ⟨D, h1, h2⟩ := h
  refine wpList_next_ranges w hg it hop k K tokElem (Value.int q) id (fun key kl hkey => by obtain ⟨x, rfl, _⟩ := Maps.keyOf_int_inv hk hkey; exact ⟨x, rfl⟩) (fun v y _ => ⟨v, rfl⟩) b r n D left cnt hit h1 hDone ?_
  intro x c kl y w' cnt' hkey hlk hv hat hrg hlt hgr hsz hen
  obtain ⟨x', ex, rfl, hwx⟩ := Maps.keyOf_int_inv hk hkey
  cases ex
  have h3 := h2 _ _ hkey
  rw [hat] at h3
  have h4 : y = (.held c, []) := by
    have : tokElem (id c) = some y := hv
    unfold tokElem at this
    exact (Option.some.inj this).symm
  rw [h4] at h3
  injection h3 with h3
  have h3 : c = f (.int q x) := h3
  subst h3
  exact hMore x w' cnt' hwx hlk ⟨D, hrg, h2⟩ hlt (kept_of_grown hgr) hsz hen
end
/-- A walk over a map that may be nil. -/
def RgO (P : Program) (k : TypeId) (z : Value) (w : World) (m : Option Nat) (r n : Nat) (f : Value → Value) (left : Lit → Bool) (cnt : Nat) : Prop :=
  match m with
  | some b => RgT P k z w b r n f left cnt
  | none => w.heap[r]? = some (.mapIter none 0 #[] 0) ∧ cnt = 0 ∧ ∀ kl, left kl = false
/-- How many keys are still to come. -/
def leftO (w : World) (m : Option Nat) (r : Nat) : Nat := match m with | some b => w.rangeLeft b r | none => 0
theorem RgO.left_eq {m : Option Nat} (h : RgO P k z w m r n f left cnt) : leftO w m r = cnt := by
  cases m with
  | some b => exact RgT.left_eq h
  | none => exact h.2.1.symm
theorem RgO.lt {m : Option Nat} (h : RgO P k z w m r n f left cnt) : r < w.heap.size := by
  cases m with
  | some b => exact RgT.lt h
  | none => exact (Array.getElem?_eq_some_iff.1 h.1).1
theorem RgO.kept {m : Option Nat} {X : List Nat} (h : RgO P k z w m r n f left cnt) (hk : Kept X w w') (hb : ∀ b, m = some b → b ∉ X) (hr : r ∉ X) : RgO P k z w' m r n f left cnt := by
  cases m with
  | some b => exact RgT.kept h hk (hb b rfl) hr
  | none => exact ⟨(hk.block r (RgO.lt (m := none) h) hr).trans h.1, h.2⟩
section
variable {ops : Array Oper} {rest : List Oper} {o : Oper} {a : Act} {Q : Exit → Act → World → Prop}
theorem wpList_range_mapO (hg : o.guard = none) (m : Operand) (t : TypeId) (hop : o.op = Op.range t m) (e : TypeId) (K : Keyed P k) (ht : P.underlying t = some (.map k e)) (mm : Option Nat)
    (hm : a.eval m = .map mm) (hown : ∀ b, mm = some b → MapT P k z w b n f) (hno : mm = none → ∀ key, f key = z)
    (hK : ∀ w' left cnt, RgO P k z w' mm w.heap.size n f left cnt → (∀ key kl, keyOf P k key = some kl → left kl = false → f key = z) → Kept [] w w' → w'.heap.size = w.heap.size + 1 → wpList P ops Q rest (a.put o.dst (.pointer (some ⟨w.heap.size, 0, none⟩))) w') :
    wpList P ops Q (o :: rest) a w := by
  cases mm with
  | some b => exact wpList_range_mapT hg m t hop e K ht hm (hown b rfl) (fun w' left cnt h => hK w' left cnt h)
  | none =>
    refine wpList_plain hg fun K' hK' => ?_
    unfold Oper.wp
    simp [execOp, hop, hm, run_range_nilMap w t k e ht, Result.andThen]
    exact hK' _ _ (hK _ (fun _ => false) 0 ⟨heap_alloc_new w _, rfl, fun _ => rfl⟩ (fun key _ _ _ => hno rfl key) ((Kept.refl _ _).alloc _) (by simp))
theorem wpList_next_mapO (hg : o.guard = none) (it : Operand) (hop : o.op = Op.next it false) (q : IntKind) (K : Keyed P k) (hk : P.underlying k = some (.int q)) (mm : Option Nat)
    (hit : a.eval it = .pointer (some ⟨r, 0, none⟩)) (h : RgO P k z w mm r n f left cnt)
    (hDone : cnt = 0 → (∀ kl, left kl = false) → wpList P ops Q rest (a.put o.dst (.tuple #[.bool false])) w)
    (hMore : ∀ (x : Int) (w' : World) (cnt' : Nat), (Lit.int q x).wf = true → left (.int q x) = true → RgO P k z w' mm r n f (fun y => left y && !y.sameKey (.int q x)) cnt' → cnt' < cnt → Kept [r] w w' → w'.heap.size = w.heap.size →
      (Instr.entry (.pointer (some ⟨r, 0, none⟩))).run P w' = .ok (.tuple #[.int q x, f (.int q x)]) w' → wpList P ops Q rest (a.put o.dst (.tuple #[.bool true, .int q x, f (.int q x)])) w') :
    wpList P ops Q (o :: rest) a w := by
  cases mm with
  | some b => exact wpList_next_mapT hg it hop q K hk hit h hDone hMore
  | none =>
    refine wpList_plain hg fun K' hK' => ?_
    have hrun : ∀ ty, (Instr.next (.pointer (some ⟨r, 0, none⟩)) false ty).run P w = .ok (.tuple #[.bool false]) w := fun ty => by
      simp only [Instr.next, getObj, Sem.run_bind, Sem.run, h.1, Result.andThen]
      rfl
    unfold Oper.wp
    simp [execOp, hop, hit, hrun, Result.andThen]
    exact hK' _ _ (hDone h.2.1 h.2.2)
end
end Go.Df
