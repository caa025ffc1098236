/- Maps that a call has made: what a look-up answers, what a store leaves. -/
import Derived.Test.YtmbihjlflcjlnaaLa
import Derived.Maps.Own
import Derived.Maps.OwnSet
import Derived.Maps.Views
import Derived.DeepKeys4
import Derived.MapViews
namespace Go.Df
open Go.RowKit Go.Maps Go.ChangeMaps
/-- Block b is a map of at most n entries; at each key its element, or z, is what f says. -/
def MapV (P : Program) (k e : TypeId) (z : Lit) (w : World) (b n : Nat) (f : Value → Lit) : Prop :=
  ∃ D : DataW Unit, w.ownsMap P k (plainElem P e) b n D ∧ ∀ key kl, keyOf P k key = some kl → D.atKey kl (.lit z) = .lit (f key)

theorem MapV.made (P : Program) (k e : TypeId) (z : Lit) (w : World) (b : Nat) (hb : b = w.heap.size) : MapV P k e z (w.alloc (.map #[] 0)) b 0 (fun _ => z) := by
  subst hb
  exact ⟨_, World.ownsMap_made w P k _, fun _ _ _ => rfl⟩

theorem MapV.mono {P : Program} {k e : TypeId} {z : Lit} {w : World} {b n n' : Nat} {f : Value → Lit} (h : MapV P k e z w b n f) (hn : n ≤ n') : MapV P k e z w b n' f :=
  let ⟨D, h1, h2⟩ := h; ⟨D, h1.mono hn, h2⟩

theorem MapV.lt {P : Program} {k e : TypeId} {z : Lit} {w : World} {b n : Nat} {f : Value → Lit} (h : MapV P k e z w b n f) : b < w.heap.size :=
  let ⟨_, h1, _⟩ := h; h1.lt

theorem MapV.ext {P : Program} {k e : TypeId} {z : Lit} {w : World} {b n : Nat} {f g : Value → Lit} (h : MapV P k e z w b n f) (hg : ∀ key kl, keyOf P k key = some kl → f key = g key) : MapV P k e z w b n g :=
  let ⟨D, h1, h2⟩ := h; ⟨D, h1, fun key kl hk => by rw [h2 key kl hk, hg key kl hk]⟩

theorem MapV.kept {P : Program} {k e : TypeId} {z : Lit} {w w' : World} {b n : Nat} {f : Value → Lit} {X : List Nat} (h : MapV P k e z w b n f) (hk : Kept X w w') (hX : b ∉ X) : MapV P k e z w' b n f := by
  have hlt := h.lt
  obtain ⟨D, ⟨es, clock, h1, h2⟩, h3⟩ := h
  exact ⟨D, ⟨es, clock, (hk.block b hlt hX).trans h1, h2⟩, h3⟩

theorem MapV.look_int {P : Program} {k e t : TypeId} {w : World} {b n : Nat} {f : Value → Lit} (h : MapV P k e (.int .i64 0) w b n f) (K : Keyed P k) (ht : P.underlying t = some (.map k e)) (he : P.underlying e = some (.int .i64)) (hz : (zeroValue e).run P w = .ok (.int .i64 0) w)
    {key : Value} {kl : Lit} (hkey : keyOf P k key = some kl) {c : Int} (hc : f key = .int .i64 c) : (Instr.lookup t (.map (some b)) key false).run P w = .ok (.int .i64 c) w := by
  obtain ⟨D, h1, h2⟩ := h
  obtain ⟨c', hrun, hat, -⟩ := h1.lookup_int K ht he hz hkey
  have h3 := h2 key kl hkey
  rw [hat, hc] at h3
  cases h3
  exact hrun

theorem plainElem_bool_inv {P : Program} {e : TypeId} (he : P.underlying e = some .bool) {v : Value} {z : DataW Unit × List MemPlace} (h : plainElem P e v = some z) : ∃ a, v = .bool a ∧ z = (.lit (.bool a), []) := by
  unfold plainElem at h
  rw [he] at h
  split at h
  · cases h; exact ⟨_, rfl, rfl⟩
  all_goals simp_all

theorem MapV.look_bool {P : Program} {k e t : TypeId} {w : World} {b n : Nat} {f : Value → Lit} (h : MapV P k e (.bool false) w b n f) (K : Keyed P k) (ht : P.underlying t = some (.map k e)) (he : P.underlying e = some .bool) (hz : (zeroValue e).run P w = .ok (.bool false) w)
    {key : Value} {kl : Lit} (hkey : keyOf P k key = some kl) {c : Bool} (hc : f key = .bool c) : (Instr.lookup t (.map (some b)) key false).run P w = .ok (.bool c) w := by
  obtain ⟨D, h1, h2⟩ := h
  obtain ⟨v, ps, hrun, hv⟩ := h1.lookup K ht hz (plainElem_bool he false) hkey
  obtain ⟨a, rfl, ha⟩ := plainElem_bool_inv he hv
  have h3 := h2 key kl hkey
  simp only [Prod.mk.injEq] at ha
  rw [ha.1, hc] at h3
  cases h3
  exact hrun

theorem MapV.store {P : Program} {k e t : TypeId} {z : Lit} {w : World} {b n : Nat} {f : Value → Lit} (h : MapV P k e z w b n f) (K : Keyed P k) (ht : P.underlying t = some (.map k e)) (hn : n < maxLen)
    {key val : Value} {kl d : Lit} (hkey : keyOf P k key = some kl) (hval : plainElem (H := Unit) P e val = some (.lit d, [])) (g : Value → Lit) (g1 : g key = d) (g2 : ∀ x, x ≠ key → g x = f x) :
    ∃ w', (Instr.mapUpdate t (.map (some b)) key val).run P w = .ok () w' ∧ MapV P k e z w' b (n + 1) g ∧ Kept [b] w w' := by
  obtain ⟨D, h1, h2⟩ := h
  have hm := h1.isMap
  obtain ⟨w', hrun, h3, hg⟩ := h1.update K ht hn hkey hval
  refine ⟨w', hrun, ⟨_, h3, fun key' kl' hk' => ?_⟩, ⟨hg.1, hg.2, hg.3, hg.4, fun j hj hx => hg.5 j hj (by simp at hx; intro hh; exact hx (by simpa using hh))⟩⟩
  by_cases hkk : key' = key
  · subst hkk
    obtain rfl : kl' = kl := by rw [hkey] at hk'; exact (Option.some.inj hk').symm
    rw [atKey_put_same hm (K.key hkey), g1]
  · have hne : kl' ≠ kl := fun hh => hkk (K.inj (by rw [← hh]; exact hk') hkey)
    rw [atKey_put_other hne, g2 _ hkk]
    exact h2 key' kl' hk'

theorem wpList_store_map {P : Program} (w : World) {ops : Array Oper} {rest : List Oper} {o : Oper} {a : Act} {Q : Exit → Act → World → Prop}
    (hg : o.guard = none) (m x v : Operand) (t : TypeId) (hop : o.op = Op.mapUpdate t m x v)
    (k e : TypeId) (K : Keyed P k) (ht : P.underlying t = some (.map k e)) (z : Lit) (b n : Nat) (f : Value → Lit)
    (hm : a.eval m = .map (some b)) (hown : MapV P k e z w b n f) (hn : n < maxLen) (key val : Value) (kl d : Lit) (hx : a.eval x = key) (hv : a.eval v = val) (hkey : keyOf P k key = some kl)
    (hval : plainElem (H := Unit) P e val = some (.lit d, [])) (g : Value → Lit) (g1 : g key = d) (g2 : ∀ x, x ≠ key → g x = f x)
    (hK : ∀ w', MapV P k e z w' b (n + 1) g → Kept [b] w w' → wpList P ops Q rest (a.put o.dst undef) w') :
    wpList P ops Q (o :: rest) a w := by
  refine wpList_plain hg fun K' hK' => ?_
  obtain ⟨w', hrun, r1, r2⟩ := hown.store K ht hn hkey hval g g1 g2
  unfold Oper.wp
  simp [execOp, hop, hm, hx, hv, hrun, Result.andThen]
  exact hK' _ _ (hK w' r1 r2)
theorem wpList_look_int {P : Program} (w : World) {ops : Array Oper} {rest : List Oper} {o : Oper} {a : Act} {Q : Exit → Act → World → Prop}
    (hg : o.guard = none) (m x : Operand) (t : TypeId) (hop : o.op = Op.lookup t m x false)
    (k e : TypeId) (K : Keyed P k) (ht : P.underlying t = some (.map k e)) (he : P.underlying e = some (.int .i64)) (hz : (zeroValue e).run P w = .ok (.int .i64 0) w) (b n : Nat) (f : Value → Lit)
    (hm : a.eval m = .map (some b)) (hown : MapV P k e (.int .i64 0) w b n f) (key : Value) (kl : Lit) (hx : a.eval x = key) (hkey : keyOf P k key = some kl) (c : Int) (hc : f key = .int .i64 c)
    (hK : wpList P ops Q rest (a.put o.dst (.int .i64 c)) w) : wpList P ops Q (o :: rest) a w := by
  refine wpList_plain hg fun K' hK' => ?_
  have hrun := hown.look_int K ht he hz hkey hc
  unfold Oper.wp
  simp [execOp, hop, hm, hx, hrun, Result.andThen]
  exact hK' _ _ hK
theorem wpList_look_bool {P : Program} (w : World) {ops : Array Oper} {rest : List Oper} {o : Oper} {a : Act} {Q : Exit → Act → World → Prop}
    (hg : o.guard = none) (m x : Operand) (t : TypeId) (hop : o.op = Op.lookup t m x false)
    (k e : TypeId) (K : Keyed P k) (ht : P.underlying t = some (.map k e)) (he : P.underlying e = some .bool) (hz : (zeroValue e).run P w = .ok (.bool false) w) (b n : Nat) (f : Value → Lit)
    (hm : a.eval m = .map (some b)) (hown : MapV P k e (.bool false) w b n f) (key : Value) (kl : Lit) (hx : a.eval x = key) (hkey : keyOf P k key = some kl) (c : Bool) (hc : f key = .bool c)
    (hK : wpList P ops Q rest (a.put o.dst (.bool c)) w) : wpList P ops Q (o :: rest) a w := by
  refine wpList_plain hg fun K' hK' => ?_
  have hrun := hown.look_bool K ht he hz hkey hc
  unfold Oper.wp
  simp [execOp, hop, hm, hx, hrun, Result.andThen]
  exact hK' _ _ hK
/-- What a struct type's fields are, in short. -/
def fieldsOf (P : Program) (k : TypeId) : List (String × TypeId × Nat) := match P.underlying k with | some (.struct fs) => fs.toList.map (fun f => (f.name, f.type, f.offset)) | _ => []
theorem fieldsOf_struct {P : Program} {k : TypeId} {l : List (String × TypeId × Nat)} (h : fieldsOf P k = l) (hl : l ≠ []) : ∃ fs, P.underlying k = some (.struct fs) ∧ fs.toList.map (fun f => (f.name, f.type, f.offset)) = l := by
  unfold fieldsOf at h
  cases hu : P.underlying k with
  | none => rw [hu] at h; exact absurd h.symm hl
  | some d =>
    rw [hu] at h
    cases d with
    | struct fs => exact ⟨fs, rfl, h⟩
    | _ => exact absurd h.symm hl
theorem keyed_struct {P : Program} {k : TypeId} {l : List (String × TypeId × Nat)} (hl : laidOutB P = true) (hrow : k < P.types.size) (hk : P.keyTypeAt 2 k = true) (h : fieldsOf P k = l) (hne : l ≠ []) : Keyed P k := by
  obtain ⟨fs, hu, -⟩ := fieldsOf_struct h hne
  exact Keyed.of_law (deep_law_laid hl (m := 2) (by omega) hrow hk (by rw [hu]))
theorem keyOf_two {P : Program} {k e : TypeId} {x y : String} (h : fieldsOf P k = [(x, e, 0), (y, e, 1)]) (hx : x ≠ "_") (hy : y ≠ "_") (hd : P.keyType k = true) (hrow : k < P.types.size) (hc : P.cellsOf k = 2) (he : P.underlying e = some (.int .i64)) (hce : P.cellsOf e = 1)
    (a b : Int) (ha : (Lit.int .i64 a).wf = true) (hb : (Lit.int .i64 b).wf = true) : ∃ kl, keyOf P k (.agg #[.int .i64 a, .int .i64 b]) = some kl := by
  obtain ⟨fs, hu, hf⟩ := fieldsOf_struct h (by simp)
  obtain ⟨m, hm⟩ : ∃ m, P.types.size = m + 1 := Nat.exists_eq_succ_of_ne_zero (Nat.ne_of_gt (Nat.lt_of_le_of_lt (Nat.zero_le (k : Nat)) hrow))
  have hfo : (Value.agg #[.int .i64 a, .int .i64 b]).formed P k = true := by
    unfold Value.formed
    rw [hu, hc]
    rfl
  have hl : fs.toList.length = 2 := by simpa using congrArg List.length hf
  obtain ⟨fl⟩ := fs
  match fl, hl, hf with
  | [f0, f1], _, hf =>
    simp only [List.map_cons, List.map_nil, List.cons.injEq, Prod.mk.injEq, and_true] at hf
    obtain ⟨⟨n0, t0, o0⟩, n1, t1, o1⟩ := hf
    unfold keyOf
    rw [hu]
    simp only [hd, hfo, Bool.and_self, if_true]
    rw [hm]
    simp [Program.keyLits, hu, hc, n0, n1, t0, t1, o0, o1, hce, he, ha, hb, Value.cells, hx, hy]
end Go.Df
