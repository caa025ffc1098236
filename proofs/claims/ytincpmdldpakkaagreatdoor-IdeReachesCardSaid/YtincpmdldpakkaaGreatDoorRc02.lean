/- Texts: Ma Mc Sp Sa Sb Sc. -/
import Derived.Test.YtincpmdldpakkaaGreatDoorRc01
import Derived.Maps.Own
import Derived.Maps.OwnSet
import Derived.Maps.Views
import Derived.DeepKeys4
import Derived.MapViews
import Derived.Test.YtincpmdldpakkaaGreatDoorRows
namespace Go.Df
open Go.RowKit Go.Maps Go.ChangeMaps
def MapV (P : Program) (k e : TypeId) (z : Lit) (w : World) (b n : Nat) (f : Value → Lit) : Prop :=
 ∃ D : DataW Unit, w.ownsMap P k (plainElem P e) b n D ∧ ∀ key kl, keyOf P k key = some kl → D.atKey kl (.lit z) = .lit (f key)
theorem MapV.made (P : Program) (k e : TypeId) (z : Lit) (w : World) (b : Nat) (hb : b = w.heap.size) : MapV P k e z (w.alloc (.map #[] 0)) b 0 (fun _ => z) := by
 subst hb
 exact ⟨_, World.ownsMap_made w P k _, fun _ _ _ => rfl⟩
theorem MapV.mono {P : Program} {k e : TypeId} {z : Lit} {w : World} {b n n' : Nat} {f : Value → Lit} (h : MapV P k e z w b n f) (hn : n ≤ n') : MapV P k e z w b n' f :=
 let ⟨D, h1, h2⟩ := h; ⟨D, h1.mono hn, h2⟩
theorem MapV.lt {P : Program} {k e : TypeId} {z : Lit} {w : World} {b n : Nat} {f : Value → Lit} (h : MapV P k e z w b n f) : b < w.heap.size :=
 let ⟨_, h1, _⟩ := h; h1.lt
theorem MapV.ext {P : Program} {k e : TypeId} {z : Lit} {w : World} {b n : Nat} {f g : Value → Lit} (h : MapV P k e z w b n f) (hg : ∀ key kl, keyOf P k key = some kl → f key = g key) : MapV P k e z w b n g :=
 let ⟨D, h1, h2⟩ := h; ⟨D, h1, fun key kl hk => by rw [h2 key kl hk, hg key kl hk]⟩
theorem MapV.kept {P : Program} {k e : TypeId} {z : Lit} {w w' : World} {b n : Nat} {f : Value → Lit} {X : List Nat} (h : MapV P k e z w b n f) (hk : Kept X w w') (hX : b ∉ X) : MapV P k e z w' b n f := by
 have hlt := h.lt
 obtain ⟨D, ⟨es, clock, h1, h2⟩, h3⟩ := h
 exact ⟨D, ⟨es, clock, (hk.block b hlt hX).trans h1, h2⟩, h3⟩
theorem MapV.look_int {P : Program} {k e t : TypeId} {w : World} {b n : Nat} {f : Value → Lit} (h : MapV P k e (.int .i64 0) w b n f) (K : Keyed P k) (ht : P.underlying t = some (.map k e)) (he : P.underlying e = some (.int .i64)) (hz : (zeroValue e).run P w = .ok (.int .i64 0) w)
  {key : Value} {kl : Lit} (hkey : keyOf P k key = some kl) {c : Int} (hc : f key = .int .i64 c) : (Instr.lookup t (.map (some b)) key false).run P w = .ok (.int .i64 c) w := by
 obtain ⟨D, h1, h2⟩ := h
 obtain ⟨c', hrun, hat, -⟩ := h1.lookup_int K ht he hz hkey
 have h3 := h2 key kl hkey
 rw [hat, hc] at h3
 cases h3
 exact hrun
theorem plainElem_bool_inv {P : Program} {e : TypeId} (he : P.underlying e = some .bool) {v : Value} {z : DataW Unit × List MemPlace} (h : plainElem P e v = some z) : ∃ a, v = .bool a ∧ z = (.lit (.bool a), []) := by
 unfold plainElem at h
 rw [he] at h
 split at h
 ·cases h; exact ⟨_, rfl, rfl⟩
 all_goals simp_all
theorem MapV.look_bool {P : Program} {k e t : TypeId} {w : World} {b n : Nat} {f : Value → Lit} (h : MapV P k e (.bool false) w b n f) (K : Keyed P k) (ht : P.underlying t = some (.map k e)) (he : P.underlying e = some .bool) (hz : (zeroValue e).run P w = .ok (.bool false) w)
  {key : Value} {kl : Lit} (hkey : keyOf P k key = some kl) {c : Bool} (hc : f key = .bool c) : (Instr.lookup t (.map (some b)) key false).run P w = .ok (.bool c) w := by
 obtain ⟨D, h1, h2⟩ := h
 obtain ⟨v, ps, hrun, hv⟩ := h1.lookup K ht hz (plainElem_bool he false) hkey
 obtain ⟨a, rfl, ha⟩ := plainElem_bool_inv he hv
 have h3 := h2 key kl hkey
 simp only [Prod.mk.injEq] at ha
 rw [ha.1, hc] at h3
 cases h3
 exact hrun
theorem MapV.store {P : Program} {k e t : TypeId} {z : Lit} {w : World} {b n : Nat} {f : Value → Lit} (h : MapV P k e z w b n f) (K : Keyed P k) (ht : P.underlying t = some (.map k e)) (hn : n < maxLen)
  {key val : Value} {kl d : Lit} (hkey : keyOf P k key = some kl) (hval : plainElem (H := Unit) P e val = some (.lit d, [])) (g : Value → Lit) (g1 : g key = d) (g2 : ∀ x, x ≠ key → g x = f x) :
  ∃ w', (Instr.mapUpdate t (.map (some b)) key val).run P w = .ok () w' ∧ MapV P k e z w' b (n + 1) g ∧ Kept [b] w w' := by
 obtain ⟨D, h1, h2⟩ := h
 have hm := h1.isMap
 obtain ⟨w', hrun, h3, hg⟩ := h1.update K ht hn hkey hval
 refine ⟨w', hrun, ⟨_, h3, fun key' kl' hk' => ?_⟩, ⟨hg.1, hg.2, hg.3, hg.4, fun j hj hx => hg.5 j hj (by simp at hx; intro hh; exact hx (by simpa using hh))⟩⟩
 by_cases hkk : key' = key
 ·subst hkk
  obtain rfl : kl' = kl := by rw [hkey] at hk'; exact (Option.some.inj hk').symm
  rw [atKey_put_same hm (K.key hkey), g1]
 ·have hne : kl' ≠ kl := fun hh => hkk (K.inj (by rw [← hh]; exact hk') hkey)
  rw [atKey_put_other hne, g2 _ hkk]
  exact h2 key' kl' hk'
theorem wpList_store_map {P : Program} (w : World) {ops : Array Oper} {rest : List Oper} {o : Oper} {a : Act} {Q : Exit → Act → World → Prop}
  (hg : o.guard = none) (m x v : Operand) (t : TypeId) (hop : o.op = Op.mapUpdate t m x v)
  (k e : TypeId) (K : Keyed P k) (ht : P.underlying t = some (.map k e)) (z : Lit) (b n : Nat) (f : Value → Lit)
  (hm : a.eval m = .map (some b)) (hown : MapV P k e z w b n f) (hn : n < maxLen) (key val : Value) (kl d : Lit) (hx : a.eval x = key) (hv : a.eval v = val) (hkey : keyOf P k key = some kl)
  (hval : plainElem (H := Unit) P e val = some (.lit d, [])) (g : Value → Lit) (g1 : g key = d) (g2 : ∀ x, x ≠ key → g x = f x)
  (hK : ∀ w', MapV P k e z w' b (n + 1) g → Kept [b] w w' → wpList P ops Q rest (a.put o.dst undef) w') :
  wpList P ops Q (o :: rest) a w := by
 refine wpList_plain hg fun K' hK' => ?_
 obtain ⟨w', hrun, r1, r2⟩ := hown.store K ht hn hkey hval g g1 g2
 unfold Oper.wp
 simp [execOp, hop, hm, hx, hv, hrun, Result.andThen]
 exact hK' _ _ (hK w' r1 r2)
theorem wpList_look_int {P : Program} (w : World) {ops : Array Oper} {rest : List Oper} {o : Oper} {a : Act} {Q : Exit → Act → World → Prop}
  (hg : o.guard = none) (m x : Operand) (t : TypeId) (hop : o.op = Op.lookup t m x false)
  (k e : TypeId) (K : Keyed P k) (ht : P.underlying t = some (.map k e)) (he : P.underlying e = some (.int .i64)) (hz : (zeroValue e).run P w = .ok (.int .i64 0) w) (b n : Nat) (f : Value → Lit)
  (hm : a.eval m = .map (some b)) (hown : MapV P k e (.int .i64 0) w b n f) (key : Value) (kl : Lit) (hx : a.eval x = key) (hkey : keyOf P k key = some kl) (c : Int) (hc : f key = .int .i64 c)
  (hK : wpList P ops Q rest (a.put o.dst (.int .i64 c)) w) : wpList P ops Q (o :: rest) a w := by
 refine wpList_plain hg fun K' hK' => ?_
 have hrun := hown.look_int K ht he hz hkey hc
 unfold Oper.wp
 simp [execOp, hop, hm, hx, hrun, Result.andThen]
 exact hK' _ _ hK
def fieldsOf (P : Program) (k : TypeId) : List (String × TypeId × Nat) := match P.underlying k with | some (.struct fs) => fs.toList.map (fun f => (f.name, f.type, f.offset)) | _ => []
theorem fieldsOf_struct {P : Program} {k : TypeId} {l : List (String × TypeId × Nat)} (h : fieldsOf P k = l) (hl : l ≠ []) : ∃ fs, P.underlying k = some (.struct fs) ∧ fs.toList.map (fun f => (f.name, f.type, f.offset)) = l := by
 unfold fieldsOf at h
 cases hu : P.underlying k with
 | none => rw [hu] at h; exact absurd h.symm hl
 | some d =>
  rw [hu] at h
  cases d with
  | struct fs => exact ⟨fs, rfl, h⟩
  | _ => exact absurd h.symm hl
theorem keyed_struct {P : Program} {k : TypeId} {l : List (String × TypeId × Nat)} (hl : laidOutB P = true) (hrow : k < P.types.size) (hk : P.keyTypeAt 2 k = true) (h : fieldsOf P k = l) (hne : l ≠ []) : Keyed P k := by
 obtain ⟨fs, hu, -⟩ := fieldsOf_struct h hne
 exact Keyed.of_law (deep_law_laid hl (m := 2) (by omega) hrow hk (by rw [hu]))
theorem keyOf_two {P : Program} {k e : TypeId} {x y : String} (h : fieldsOf P k = [(x, e, 0), (y, e, 1)]) (hx : x ≠ "_") (hy : y ≠ "_") (hd : P.keyType k = true) (hrow : k < P.types.size) (hc : P.cellsOf k = 2) (he : P.underlying e = some (.int .i64)) (hce : P.cellsOf e = 1)
  (a b : Int) (ha : (Lit.int .i64 a).wf = true) (hb : (Lit.int .i64 b).wf = true) : ∃ kl, keyOf P k (.agg #[.int .i64 a, .int .i64 b]) = some kl := by
 obtain ⟨fs, hu, hf⟩ := fieldsOf_struct h (by simp)
 obtain ⟨m, hm⟩ : ∃ m, P.types.size = m + 1 := Nat.exists_eq_succ_of_ne_zero (Nat.ne_of_gt (Nat.lt_of_le_of_lt (Nat.zero_le (k : Nat)) hrow))
 have hfo : (Value.agg #[.int .i64 a, .int .i64 b]).formed P k = true := by
  unfold Value.formed
  rw [hu, hc]
  rfl
 have hl : fs.toList.length = 2 := by simpa using congrArg List.length hf
 obtain ⟨fl⟩ := fs
 match fl, hl, hf with
 | [f0, f1], _, hf =>
  simp only [List.map_cons, List.map_nil, List.cons.injEq, Prod.mk.injEq, and_true] at hf
  obtain ⟨⟨n0, t0, o0⟩, n1, t1, o1⟩ := hf
  unfold keyOf
  rw [hu]
  simp only [hd, hfo, Bool.and_self, if_true]
  rw [hm]
  simp [Program.keyLits, hu, hc, n0, n1, t0, t1, o0, o1, hce, he, ha, hb, Value.cells, hx, hy]
def tokElem (v : Value) : Option (DataW Value × List MemPlace) := some (.held v, [])
def Reads (P : Program) (k : TypeId) (z : Value) (D : DataW Value) (f : Value → Value) : Prop :=
 ∀ key kl, keyOf P k key = some kl → D.atKey kl (.held z) = .held (f key) ∧ ((∀ zd, D.atKey kl zd = .held (f key)) → f key ≠ z)
def MapT (P : Program) (k : TypeId) (z : Value) (w : World) (b n : Nat) (f : Value → Value) : Prop :=
 ∃ D : DataW Value, w.ownsMap P k tokElem b n D ∧ Reads P k z D f
theorem Reads.two {P : Program} {k : TypeId} {z : Value} {D : DataW Value} {f g : Value → Value} (h : Reads P k z D f) (hg : ∀ key, f key = g key) : Reads P k z D g := by
 have e : f = g := funext hg
 subst e
 exact h
theorem MapT.made (P : Program) (k : TypeId) (z : Value) (w : World) (b : Nat) (hb : b = w.heap.size) : MapT P k z (w.alloc (.map #[] 0)) b 0 (fun _ => z) := by
 subst hb
 refine ⟨_, World.ownsMap_made w P k _, fun _ _ _ => ⟨rfl, fun h => ?_⟩⟩
 have h9 := h (.lit (.bool true))
 cases h9
theorem MapT.mono {P : Program} {k : TypeId} {z : Value} {w : World} {b n n' : Nat} {f : Value → Value} (h : MapT P k z w b n f) (hn : n ≤ n') : MapT P k z w b n' f :=
 let ⟨D, h1, h2⟩ := h; ⟨D, h1.mono hn, h2⟩
theorem MapT.lt {P : Program} {k : TypeId} {z : Value} {w : World} {b n : Nat} {f : Value → Value} (h : MapT P k z w b n f) : b < w.heap.size :=
 let ⟨_, h1, _⟩ := h; h1.lt
theorem MapT.obj {P : Program} {k : TypeId} {z : Value} {w : World} {b n : Nat} {f : Value → Value} (h : MapT P k z w b n f) : ∃ es clock, w.heap[b]? = some (.map es clock) :=
 let ⟨_, ⟨es, clock, h1, _⟩, _⟩ := h; ⟨es, clock, h1⟩
theorem MapT.ext {P : Program} {k : TypeId} {z : Value} {w : World} {b n : Nat} {f g : Value → Value} (h : MapT P k z w b n f) (hg : ∀ key, f key = g key) : MapT P k z w b n g :=
 let ⟨D, h1, h2⟩ := h; ⟨D, h1, h2.two hg⟩
theorem MapT.same {P : Program} {k : TypeId} {z : Value} {w w' : World} {b n : Nat} {f : Value → Value} (h : MapT P k z w b n f) (hk : w'.heap[b]? = w.heap[b]?) : MapT P k z w' b n f := by
 obtain ⟨D, ⟨es, clock, h1, h2⟩, h3⟩ := h
 exact ⟨D, ⟨es, clock, hk.trans h1, h2⟩, h3⟩
theorem MapT.kept {P : Program} {k : TypeId} {z : Value} {w w' : World} {b n : Nat} {f : Value → Value} {X : List Nat} (h : MapT P k z w b n f) (hk : Kept X w w') (hX : b ∉ X) : MapT P k z w' b n f :=
 h.same (hk.block b h.lt hX)
theorem MapT.look {P : Program} {k e t : TypeId} {z : Value} {w : World} {b n : Nat} {f : Value → Value} (h : MapT P k z w b n f) (K : Keyed P k) (ht : P.underlying t = some (.map k e)) (hz : (zeroValue e).run P w = .ok z w)
  {key : Value} {kl : Lit} (hkey : keyOf P k key = some kl) : (Instr.lookup t (.map (some b)) key false).run P w = .ok (f key) w := by
 obtain ⟨D, h1, h2⟩ := h
 obtain ⟨v, ps, hrun, hv⟩ := h1.lookup K ht hz (zd := .held z) (zp := []) rfl hkey
 rw [(h2 key kl hkey).1] at hv
 unfold tokElem at hv
 injection hv with hv
 injection hv with hv _
 injection hv with hv
 rw [hrun, hv]
theorem MapT.store {P : Program} {k e t : TypeId} {z : Value} {w : World} {b n : Nat} {f : Value → Value} (h : MapT P k z w b n f) (K : Keyed P k) (ht : P.underlying t = some (.map k e)) (hn : n < maxLen)
  {key val : Value} {kl : Lit} (hkey : keyOf P k key = some kl) (g : Value → Value) (g1 : g key = val) (g2 : ∀ x, x ≠ key → g x = f x) (hz : val ≠ z) :
  ∃ w', (Instr.mapUpdate t (.map (some b)) key val).run P w = .ok () w' ∧ MapT P k z w' b (n + 1) g ∧ Kept [b] w w' := by
 obtain ⟨D, h1, h2⟩ := h
 have hm := h1.isMap
 obtain ⟨w', hrun, h3, hg⟩ := h1.update K ht hn hkey (d := .held val) (ps := []) rfl
 refine ⟨w', hrun, ⟨_, h3, fun key' kl' hk' => ?_⟩, ⟨hg.1, hg.2, hg.3, hg.4, fun j hj hx => hg.5 j hj (by simp at hx; intro hh; exact hx (by simpa using hh))⟩⟩
 by_cases hkk : key' = key
 ·subst hkk
  obtain rfl : kl' = kl := by rw [hkey] at hk'; exact (Option.some.inj hk').symm
  exact ⟨by rw [atKey_put_same hm (K.key hkey), g1], fun _ => by rw [g1]; exact hz⟩
 ·have hne : kl' ≠ kl := fun hh => hkk (K.inj (by rw [← hh]; exact hk') hkey)
  refine ⟨by rw [atKey_put_other hne, g2 _ hkk]; exact (h2 key' kl' hk').1, fun h => ?_⟩
  rw [g2 _ hkk] at h ⊢
  exact (h2 key' kl' hk').2 (fun zd => by rw [← h zd, atKey_put_other hne])
theorem keptWide {X Y : List Nat} {w w' : World} (h : Kept X w w') (hx : ∀ x ∈ X, x ∈ Y) : Kept Y w w' := ⟨h.os, h.tape, h.output, h.size, fun k hk hn => h.block k hk (fun hm => hn (hx k hm))⟩
def Tag (w : World) (b : Nat) (t : TypeId) : Prop := ∃ cur, w.heap[b]? = some (.cells cur t (0, 0))
theorem Tag.lt {w : World} {b : Nat} {t : TypeId} (h : Tag w b t) : b < w.heap.size := by
 obtain ⟨cur, h⟩ := h
 exact (Array.getElem?_eq_some_iff.1 h).1
theorem Tag.same {w w' : World} {b : Nat} {t : TypeId} (h : Tag w b t) (hk : w'.heap[b]? = w.heap[b]?) : Tag w' b t := let ⟨cur, h⟩ := h; ⟨cur, hk.trans h⟩
theorem Tag.new (w : World) (cur : Array Value) (t : TypeId) (b : Nat) (hb : b = w.heap.size) : Tag (w.alloc (.cells cur t)) b t := by
 subst hb
 exact ⟨cur, heap_alloc_new w _⟩
theorem Tag.frozen {w : World} {b : Nat} {t : TypeId} (h : Tag w b t) (i : Nat) : w.frozen? ⟨b, i, none⟩ = false := by
 obtain ⟨cur, h⟩ := h
 simp [World.frozen?, h]
theorem Tag.set {w : World} {b : Nat} {t : TypeId} (h : Tag w b t) (x i : Nat) (v : Value) : Tag (w.setCell ⟨x, i, none⟩ v) b t := by
 obtain ⟨cur, h⟩ := h
 by_cases e : b = x
 ·subst e
  unfold Tag World.setCell
  simp only [Array.getElem?_modify]
  simp [h]
 ·exact ⟨cur, (RowKit.Below.heap_setCell _ _ _ _ e).trans h⟩
theorem Tag.ne_map {w : World} {b x : Nat} {t : TypeId} (h : Tag w b t) (hx : ∃ es clock, w.heap[x]? = some (.map es clock)) : b ≠ x := by
 rintro rfl
 obtain ⟨cur, h⟩ := h
 obtain ⟨es, clock, hx⟩ := hx
 rw [h] at hx
 cases hx
theorem Tag.ne {w : World} {b x : Nat} {t u : TypeId} (h : Tag w b t) (hx : Tag w x u) (hn : t ≠ u) : b ≠ x := by
 rintro rfl
 obtain ⟨cur, h⟩ := h
 obtain ⟨cur', hx⟩ := hx
 rw [h] at hx
 injection hx with hx
 injection hx with _ hx _
 exact hn hx
theorem own_tag {w : World} {base : Nat} {e : TypeId} {size : Nat} {v : Value} {n : Nat} {xs : List Value} (h : w.ownsRow base e size v n xs) {g : Nat} (hg : v.ownBlock = some g) : Tag w g e := by
 rcases h.2 with ⟨rfl, _⟩ | ⟨g', cap, cur, rfl, _, h1, _⟩
 ·cases hg
 ·injection hg with hg
  subst hg
  exact ⟨cur, h1⟩
structure Kb (TS : List TypeId) (base : Nat) (w w' : World) : Prop where
 os : w'.os = w.os
 tape : w'.tape = w.tape
 output : w'.output = w.output
 size : w.heap.size ≤ w'.heap.size
 low : ∀ k, k < w.heap.size → k < base → w'.heap[k]? = w.heap[k]?
 tag : ∀ k t, Tag w k t → t ∉ TS → w'.heap[k]? = w.heap[k]?
theorem Kb.refl (TS : List TypeId) (base : Nat) (w : World) : Kb TS base w w := ⟨rfl, rfl, rfl, Nat.le_refl _, fun _ _ _ => rfl, fun _ _ _ _ => rfl⟩
theorem Kb.trans {TS : List TypeId} {base : Nat} {w w' w'' : World} (h : Kb TS base w w') (k : Kb TS base w' w'') : Kb TS base w w'' :=
 ⟨k.os.trans h.os, k.tape.trans h.tape, k.output.trans h.output, Nat.le_trans h.size k.size, fun x hx hb => (k.low x (Nat.lt_of_lt_of_le hx h.size) hb).trans (h.low x hx hb),
  fun x t ht hn => (k.tag x t (ht.same (h.tag x t ht hn)) hn).trans (h.tag x t ht hn)⟩
theorem Kb.of_kept {TS : List TypeId} {base : Nat} {X : List Nat} {w w' : World} (h : Kept X w w') (hX : ∀ x ∈ X, base ≤ x ∧ ∀ t, Tag w x t → t ∈ TS) : Kb TS base w w' :=
 ⟨h.os, h.tape, h.output, h.size, fun k hk hb => h.block k hk (fun hm => by have := (hX k hm).1; omega), fun k t ht hn => h.block k ht.lt (fun hm => hn ((hX k hm).2 t ht))⟩
theorem Kb.of_same {TS : List TypeId} {base : Nat} {w w' : World} (h : Kept [] w w') : Kb TS base w w' := Kb.of_kept h (by simp)
theorem Kb.below {TS : List TypeId} {base : Nat} {w w' : World} (h : Kb TS base w w') (hb : base ≤ w.heap.size) : Below base w w' :=
 ⟨h.os, h.tape, h.output, h.size, fun k hk => h.low k (by omega) hk⟩
theorem Kb.call {TS : List TypeId} {base : Nat} {w w' w'' : World} (h : Kb TS base w w') (hb : Below w'.heap.size w' w'') : Kb TS base w w'' := h.trans (Kb.of_same ((Kept.refl _ _).call hb))
structure Tb (P : Program) (k tM : TypeId) (z : Value) (w : World) (r N : Nat) (m : Nat → Option Nat) (c : Nat → Nat) (v : Nat → Value → Value) : Prop where
 row : ∃ cur, w.heap[r]? = some (.cells cur tM (0, 0)) ∧ cur.size = N ∧ ∀ n, n < N → cur[n]? = some (.map (m n))
 is : ∀ n b, n < N → m n = some b → MapT P k z w b (c n) (v n)
 no : ∀ n, n < N → m n = none → ∀ a, v n a = z
 inj : ∀ n n' b, n < N → n' < N → m n = some b → m n' = some b → n = n'
variable {P : Program} {k tM : TypeId} {z : Value} {w : World} {r N : Nat} {m : Nat → Option Nat} {c : Nat → Nat} {v : Nat → Value → Value}
theorem Tb.rtag (h : Tb P k tM z w r N m c v) : Tag w r tM := let ⟨cur, h1, _⟩ := h.row; ⟨cur, h1⟩
theorem Tb.cell (h : Tb P k tM z w r N m c v) {n : Nat} (hn : n < N) : w.cell? ⟨r, n, none⟩ = some (.map (m n)) := by
 obtain ⟨cur, h1, _, h3⟩ := h.row
 simp [World.cell?, h1, h3 n hn]
theorem Tb.kept {X : List Nat} {w' : World} (h : Tb P k tM z w r N m c v) (hk : Kept X w w') (hr : r ∉ X) (hm : ∀ n b, n < N → m n = some b → b ∉ X) : Tb P k tM z w' r N m c v := by
 obtain ⟨cur, h1, h2, h3⟩ := h.row
 exact ⟨⟨cur, (hk.block r h.rtag.lt hr).trans h1, h2, h3⟩, fun n b hn hb => (h.is n b hn hb).kept hk (hm n b hn hb), h.no, h.inj⟩
theorem Tb.ext (h : Tb P k tM z w r N m c v) {v' : Nat → Value → Value} (hv : ∀ n a, v n a = v' n a) : Tb P k tM z w r N m c v' := by
 have : v = v' := funext fun n => funext fun a => hv n a
 subst this
 exact h
open Classical in
noncomputable def updV (v : Nat → Value → Value) (n : Nat) (key x : Value) : Nat → Value → Value := fun n' key' => if n' = n ∧ key' = key then x else v n' key'
theorem Tb.stored {w' : World} {n b : Nat} {key x : Value} (h : Tb P k tM z w r N m c v) (hn : n < N) (hb : m n = some b) (hk : Kept [b] w w') (hm : MapT P k z w' b (c n + 1) (updV v n key x n)) :
  Tb P k tM z w' r N m (fun i => if i = n then c n + 1 else c i) (updV v n key x) := by
 obtain ⟨cur, h1, h2, h3⟩ := h.row
 have hne : r ≠ b := h.rtag.ne_map (h.is n b hn hb).obj
 refine ⟨⟨cur, (hk.block r h.rtag.lt (by simpa using hne)).trans h1, h2, h3⟩, fun i b' hi hb' => ?_, fun i hi hi' a => ?_, h.inj⟩
 ·by_cases e : i = n
  ·subst e
   obtain rfl : b' = b := by rw [hb] at hb'; exact (Option.some.inj hb').symm
   simpa using hm
  ·have h4 := (h.is i b' hi hb').kept hk (by intro hm'; simp at hm'; subst hm'; exact e (h.inj i n b' hi hn hb' hb))
   simp only [if_neg e]
   refine h4.ext fun a => ?_
   simp [updV, e]
 ·have e : i ≠ n := by rintro rfl; rw [hb] at hi'; cases hi'
  simp only [updV]
  rw [if_neg (fun hh => e hh.1)]
  exact h.no i hi hi' a
theorem Tb.fresh {n b : Nat} (h : Tb P k tM z w r N m c v) (hn : n < N) (hm : m n = none) (hb : b = w.heap.size) :
  Tb P k tM z ((w.alloc (.map #[] 0)).setCell ⟨r, n, none⟩ (.map (some b))) r N (fun i => if i = n then some b else m i) c v := by
 subst hb
 obtain ⟨cur, h1, h2, h3⟩ := h.row
 have hr := h.rtag.lt
 have h1' : (w.alloc (.map #[] 0)).heap[r]? = some (.cells cur tM (0, 0)) := (((Kept.refl [] w).alloc _).block r hr (by simp)).trans h1
 have hrow : ((w.alloc (.map #[] 0)).setCell ⟨r, n, none⟩ (.map (some w.heap.size))).heap[r]? = some (.cells (cur.setIfInBounds n (.map (some w.heap.size))) tM (0, 0)) := by
  unfold World.setCell
  simp only [Array.getElem?_modify]
  simp [h1']
 have hkx : Kept [r] (w.alloc (.map #[] 0)) ((w.alloc (.map #[] 0)).setCell ⟨r, n, none⟩ (.map (some w.heap.size))) := (Kept.refl _ _).set _ _ _ (.inl (by simp))
 refine ⟨⟨_, hrow, by simpa using h2, fun i hi => ?_⟩, fun i b' hi hb' => ?_, fun i hi hi' => ?_, fun i j b' hi hj hbi hbj => ?_⟩
 ·by_cases e : i = n
  ·subst e
   simp [h2, hi]
  ·rw [Array.getElem?_setIfInBounds_ne (Ne.symm e), h3 i hi, if_neg e]
 ·by_cases e : i = n
  ·subst e
   rw [if_pos rfl] at hb'
   injection hb' with hb'
   subst hb'
   have h5 : MapT P k z (w.alloc (.map #[] 0)) w.heap.size (c i) (v i) := ((MapT.made P k z w _ rfl).mono (Nat.zero_le _)).ext fun a => (h.no i hi hm a).symm
   exact h5.kept hkx (by simp; omega)
  ·rw [if_neg e] at hb'
   have h4 := (h.is i b' hi hb').kept ((Kept.refl [] w).alloc (.map #[] 0)) (by simp)
   have h5 : b' ≠ r := (h.rtag.ne_map (h.is i b' hi hb').obj).symm
   exact h4.kept hkx (by simpa using h5)
 ·by_cases e : i = n
  ·subst e; rw [if_pos rfl] at hi'; cases hi'
  ·rw [if_neg e] at hi'
   exact h.no i hi hi'
 ·by_cases e : i = n
  ·by_cases e' : j = n
   ·omega
   ·subst e
    rw [if_pos rfl] at hbi
    rw [if_neg e'] at hbj
    injection hbi with hbi
    have := (h.is j b' hj hbj).lt
    omega
  ·rw [if_neg e] at hbi
   by_cases e' : j = n
   ·subst e'
    rw [if_pos rfl] at hbj
    injection hbj with hbj
    have := (h.is i b' hi hbi).lt
    omega
   ·rw [if_neg e'] at hbj
    exact h.inj i j b' hi hj hbi hbj
end Go.Df
namespace Go.Df.Sp
structure Nd where
 f : Int
 k : Int
 i : Int
deriving DecidableEq
structure Ed where
 a : Int
 b : Int
 k : Int
 c : Int
deriving DecidableEq
def Nd.cs (n : Nd) : List Value := [.int .i64 n.f, .int .i64 n.k, .int .i64 n.i]
def Ed.cs (e : Ed) : List Value := [.int .i64 e.a, .int .i64 e.b, .int .i64 e.k, .int .i64 e.c]
def cmpI (x y : Int) : Int := if x < y then -1 else if y < x then 1 else 0
def orL : List Int → Int
 | [] => 0
 | x :: l => if x = 0 then orL l else x
def lessN (a b : Nd) : Bool := if a.f ≠ b.f then decide (a.f < b.f) else if a.k ≠ b.k then decide (a.k < b.k) else decide (a.i < b.i)
def lessE (a b : Ed) : Bool := if a.a ≠ b.a then decide (a.a < b.a) else if a.b ≠ b.b then decide (a.b < b.b) else if a.k ≠ b.k then decide (a.k < b.k) else decide (a.c < b.c)
def ordN (a b : Nd) : Int := orL [cmpI a.f b.f, cmpI a.k b.k, cmpI a.i b.i]
def ordE (a b : Ed) : Int := orL [cmpI a.a b.a, cmpI a.b b.b, cmpI a.k b.k, cmpI a.c b.c]
theorem or_cmp (x y : Int) (l : List Int) : decide (0 ≤ orL (cmpI x y :: l)) = if x ≠ y then !decide (x < y) else decide (0 ≤ orL l) := by
 rw [orL]
 unfold cmpI
 by_cases h1 : x < y
 ·simp [h1, show x ≠ y by omega]
 ·by_cases h2 : y < x
  ·simp [h1, h2, show x ≠ y by omega]
  ·simp [show x = y by omega]
theorem or_last (x y : Int) : decide (0 ≤ orL [cmpI x y]) = !decide (x < y) := by
 rw [or_cmp]
 split
 ·rfl
 ·rename_i h
  have : ¬ x < y := by omega
  simp [orL, this]
theorem ordN_ge (a b : Nd) : decide (0 ≤ ordN a b) = !lessN a b := by
 unfold ordN lessN
 rw [or_cmp, or_cmp, or_last]
 split
 ·rfl
 ·split <;> rfl
theorem ordE_ge (a b : Ed) : decide (0 ≤ ordE a b) = !lessE a b := by
 unfold ordE lessE
 rw [or_cmp, or_cmp, or_cmp, or_last]
 split
 ·rfl
 ·split
  ·rfl
  ·split <;> rfl
end Go.Df.Sp
namespace Go.Proofs.YtincpmdldpakkaaGreatDoor
open Go.RowKit Go.Df
attribute [local go_sem ↓] Go.wp_at_zero Go.wp_at_succ
theorem int_info : (Tryz.prog.info? 3).map (fun i => (i.zero, i.size, i.bytes)) = some (some (.int .i64 0), 1, 8) := by kernel_rfl
theorem isNaN_any (x : Int) (w : World) : Calls Tryz.prog 101 #[.int .i64 x] w fun e w' => e = .returned (.bool false) ∧ w = w' := by
 go_enter Tryz.func101, Tryz.ntmps101
 go_wp2
 go_ret
 exact ⟨ret_bool (by simp), rfl⟩
theorem compare_any (x y : Int) (w : World) : Calls Tryz.prog 55 #[.int .i64 x, .int .i64 y] w fun e w' => e = .returned (.int .i64 (Sp.cmpI x y)) ∧ w = w' := by
 go_enter Tryz.func55, Tryz.ntmps55
 go_wp2_with (go_at_call 101; refine (isNaN_any _ _).mono ?_; rintro e w' ⟨rfl, rfl⟩)
 all_goals (go_ret; refine ⟨ret_int ?_, rfl⟩; unfold Sp.cmpI; first | (rw [if_pos (by omega)]) | (rw [if_neg (by omega), if_pos (by omega)]) | (rw [if_neg (by omega), if_neg (by omega)]))
theorem Sp.or_at {l : List Int} {k : Nat} (h : ∀ j, j < k → gi l j = 0) (hk : k < l.length) (h0 : gi l k ≠ 0) : Sp.orL l = gi l k := by
 induction l generalizing k with
 | nil => simp at hk
 | cons x l ih =>
  rw [Sp.orL]
  cases k with
  | zero => rw [if_neg (show ¬ x = 0 from h0)]; rfl
  | succ k =>
   have h1 : x = 0 := h 0 (by omega)
   rw [if_pos h1]
   exact ih (fun j hj => h (j + 1) (by omega)) (by simpa using hk) h0
theorem Sp.or_none {l : List Int} (h : ∀ j, j < l.length → gi l j = 0) : Sp.orL l = 0 := by
 induction l with
 | nil => rfl
 | cons x l ih =>
  have h1 : x = 0 := h 0 (by simp)
  rw [Sp.orL, if_pos h1]
  exact ih (fun j hj => h (j + 1) (by simpa using hj))
set_option maxHeartbeats 400000 in
theorem or_any (A : Option Addr) (n c : Nat) (l : List Int) (w : World) (hl : Ints w A n l) (hp : 0 < n) (hn : n ≤ 1000) :
   Calls Tryz.prog 54 #[.slice A n c] w fun e w' => e = .returned (.int .i64 (Sp.orL l)) ∧ w = w' := by
 obtain ⟨b, o, rfl, hlt, hc⟩ := hl.at_ hp
 have HL := Lib.hid hl.1
 have HC := Lib.hid hc
 clear hc hl
 go_enter Tryz.func54, Tryz.ntmps54
 go_wp2
 go_loop [8] (fun i => ∃ k : Nat, k ≤ n ∧ i = .int .i64 k ∧ Hid (∀ j, j < k → gi l j = 0)) (fun i => n - (intOf i).toNat)
 case atStart => exact ⟨0, Nat.zero_le _, rfl, Lib.hid (fun j hj => absurd hj (by omega))⟩
 case round =>
   obtain ⟨k, hk, rfl, hj⟩ := hrel
   by_cases hlt2 : k < n
   · have hcell := HC.out k hlt2
     by_cases h0 : gi l k = 0
     · have e1 : (gi l k != 0) = false := by simp [h0]
       have H0 := Lib.hid h0
       clear h0
       go_wp2
       go_round
       case rel =>
         refine ⟨k + 1, by omega, by go_num, Lib.hid (fun j hj1 => ?_)⟩
         rcases Nat.lt_or_ge j k with h2 | h2
         · exact hj.out j h2
         · obtain rfl : j = k := by omega
           exact H0.out
       case measure => simp [intOf]; omega
     · have e1 : (gi l k != 0) = true := by simp [h0]
       go_wp2
       go_ret
       exact ⟨ret_int (Sp.or_at hj.out (by rw [HL.out]; exact hlt2) h0).symm, rfl⟩
   · go_wp2
     go_ret
     exact ⟨ret_int (Sp.or_none (fun j hj1 => hj.out j (by rw [HL.out] at hj1; omega))).symm, rfl⟩
theorem Ints.drew {w : World} {A : Option Addr} {n : Nat} {xs : List Int} (h : Ints w A n xs) : Ints w.drew A n xs := h
theorem three_ints (w : World) (x y z : Int) (t : TypeId) (b : Nat) (hb : b = w.heap.size) : Ints (w.alloc (.cells #[.int .i64 x, .int .i64 y, .int .i64 z] t)) (some ⟨b, 0, none⟩) 3 [x, y, z] := by
 subst hb
 refine ⟨rfl, fun _ => ⟨_, _, rfl, by simp, fun i hi => ?_⟩⟩
 rw [World.cell?_alloc_new, Nat.zero_add]
 match i, hi with
 | 0, _ => rfl
 | 1, _ => rfl
 | 2, _ => rfl
theorem four_ints (w : World) (x y z u : Int) (t : TypeId) (b : Nat) (hb : b = w.heap.size) : Ints (w.alloc (.cells #[.int .i64 x, .int .i64 y, .int .i64 z, .int .i64 u] t)) (some ⟨b, 0, none⟩) 4 [x, y, z, u] := by
 subst hb
 refine ⟨rfl, fun _ => ⟨_, _, rfl, by simp, fun i hi => ?_⟩⟩
 rw [World.cell?_alloc_new, Nat.zero_add]
 match i, hi with
 | 0, _ => rfl
 | 1, _ => rfl
 | 2, _ => rfl
 | 3, _ => rfl
set_option maxHeartbeats 1000000 in
theorem orderNode_any (f k i f' k' i' : Int) (w : World) :
   Calls Tryz.prog 123 #[.agg #[.int .i64 f, .int .i64 k, .int .i64 i], .agg #[.int .i64 f', .int .i64 k', .int .i64 i']] w fun e w' => e = .returned (.int .i64 (Sp.ordN ⟨f, k, i⟩ ⟨f', k', i'⟩)) ∧ Below w.heap.size w w' := by
 go_enter Tryz.func123, Tryz.ntmps123
 go_upto_region 1 with fail
 refine wp_named (fun W => ∃ b0 b1, w.heap.size = b0 ∧ w.heap.size + 1 = b1 ∧ Blk W b0 [.int .i64 f, .int .i64 k, .int .i64 i] ∧ Blk W b1 [.int .i64 f', .int .i64 k', .int .i64 i'] ∧ Below w.heap.size w W) ⟨_, _, rfl, rfl, ?_, ?_, ?_⟩ ?_
 · exact (Blk.new _ _ _ _ (by first | rfl | simp)).alloc _
 · exact kbn
 · go_grown
 rintro W ⟨b0, b1, e0, e1, B0, B1, hB⟩
 rw [e1, e0]
 have G0 : w.heap.size ≤ b0 := by omega
 have n01 : b0 ≠ b1 := by omega
 have G1 : w.heap.size ≤ b1 := by omega
 have n10 : b1 ≠ b0 := by omega
 clear e0 e1
 have ⟨L0, C0, F0⟩ := B0
 have ⟨L1, C1, F1⟩ := B1
 go_region_held3 (fun w' => SX0 W w') (exact kp0)
   (first | (go_at_call 55; refine (compare_any _ _ _).mono ?_; rintro e w1 ⟨rfl, rfl⟩) | (go_at_call 54; refine (or_any _ _ _ [Sp.cmpI f f', Sp.cmpI k k', Sp.cmpI i i'] _ (by first | exact three_ints _ _ _ _ _ _ (by first | rfl | simp) | exact Ints.drew (three_ints _ _ _ _ _ _ (by first | rfl | simp))) (by omega) (by omega)).mono ?_; rintro e w2 ⟨rfl, rfl⟩))
 all_goals
   go_wp2_with fail
   go_ret
   refine ⟨rfl, Kept.below (X := []) hB hB.size (by simp) ?_⟩
   (exact kpt0)
set_option maxHeartbeats 1000000 in
theorem orderEdge_any (a b k c a' b' k' c' : Int) (w : World) :
   Calls Tryz.prog 126 #[.agg #[.int .i64 a, .int .i64 b, .int .i64 k, .int .i64 c], .agg #[.int .i64 a', .int .i64 b', .int .i64 k', .int .i64 c']] w fun e w' => e = .returned (.int .i64 (Sp.ordE ⟨a, b, k, c⟩ ⟨a', b', k', c'⟩)) ∧ Below w.heap.size w w' := by
 go_enter Tryz.func126, Tryz.ntmps126
 go_upto_region 1 with fail
 refine wp_named (fun W => ∃ b0 b1, w.heap.size = b0 ∧ w.heap.size + 1 = b1 ∧ Blk W b0 [.int .i64 a, .int .i64 b, .int .i64 k, .int .i64 c] ∧ Blk W b1 [.int .i64 a', .int .i64 b', .int .i64 k', .int .i64 c'] ∧ Below w.heap.size w W) ⟨_, _, rfl, rfl, ?_, ?_, ?_⟩ ?_
 · exact (Blk.new _ _ _ _ (by first | rfl | simp)).alloc _
 · exact kbn
 · go_grown
 rintro W ⟨b0, b1, e0, e1, B0, B1, hB⟩
 rw [e1, e0]
 have G0 : w.heap.size ≤ b0 := by omega
 have n01 : b0 ≠ b1 := by omega
 have G1 : w.heap.size ≤ b1 := by omega
 have n10 : b1 ≠ b0 := by omega
 clear e0 e1
 have ⟨L0, C0, F0⟩ := B0
 have ⟨L1, C1, F1⟩ := B1
 go_region_held3 (fun w' => SX0 W w') (exact kp0)
   (first | (go_at_call 55; refine (compare_any _ _ _).mono ?_; rintro e w1 ⟨rfl, rfl⟩) | (go_at_call 54; refine (or_any _ _ _ [Sp.cmpI a a', Sp.cmpI b b', Sp.cmpI k k', Sp.cmpI c c'] _ (by first | exact four_ints _ _ _ _ _ _ _ (by first | rfl | simp) | exact Ints.drew (four_ints _ _ _ _ _ _ _ (by first | rfl | simp))) (by omega) (by omega)).mono ?_; rintro e w2 ⟨rfl, rfl⟩))
 all_goals
   go_wp2_with fail
   go_ret
   refine ⟨rfl, Kept.below (X := []) hB hB.size (by simp) ?_⟩
   (exact kpt0)
set_option maxHeartbeats 1000000 in
theorem less_any (f k i f' k' i' : Int) (w : World) :
   Calls Tryz.prog 120 #[.agg #[.int .i64 f, .int .i64 k, .int .i64 i], .agg #[.int .i64 f', .int .i64 k', .int .i64 i']] w fun e w' => e = .returned (.bool (Sp.lessN ⟨f, k, i⟩ ⟨f', k', i'⟩)) ∧ Below w.heap.size w w' := by
 go_enter Tryz.func120, Tryz.ntmps120
 go_wp2
 all_goals (go_ret; refine ⟨ret_bool ?_, by go_grown⟩; unfold Sp.lessN; simp_all)
set_option maxHeartbeats 1000000 in
theorem lessEdge_any (a b k c a' b' k' c' : Int) (w : World) :
   Calls Tryz.prog 69 #[.agg #[.int .i64 a, .int .i64 b, .int .i64 k, .int .i64 c], .agg #[.int .i64 a', .int .i64 b', .int .i64 k', .int .i64 c']] w fun e w' => e = .returned (.bool (Sp.lessE ⟨a, b, k, c⟩ ⟨a', b', k', c'⟩)) ∧ Below w.heap.size w w' := by
 go_enter Tryz.func69, Tryz.ntmps69
 go_wp2
 all_goals (go_ret; refine ⟨ret_bool ?_, by go_grown⟩; unfold Sp.lessE; simp_all)
end Go.Proofs.YtincpmdldpakkaaGreatDoor
namespace Go.Df
open Go.RowKit Sp
def gn (ns : List Nd) (i : Nat) : Nd := ns.getD i ⟨0, 0, 0⟩
def ge (es : List Ed) (i : Nat) : Ed := es.getD i ⟨0, 0, 0, 0⟩
theorem gn_lt {ns : List Nd} {i : Nat} (h : i < ns.length) : gn ns i = ns[i] := by simp [gn, h]
theorem ge_lt {es : List Ed} {i : Nat} (h : i < es.length) : ge es i = es[i] := by simp [ge, h]
def Nds (w : World) (A : Option Addr) (n : Nat) (ns : List Nd) : Prop :=
 ns.length = n ∧ (0 < n → ∃ b o, A = some ⟨b, o, none⟩ ∧ b < w.heap.size ∧ ∀ i, i < n → w.cell? ⟨b, o + i * 3, none⟩ = some (.int .i64 (gn ns i).f) ∧ w.cell? ⟨b, o + i * 3 + 1, none⟩ = some (.int .i64 (gn ns i).k) ∧ w.cell? ⟨b, o + i * 3 + 2, none⟩ = some (.int .i64 (gn ns i).i))
def Eds (w : World) (A : Option Addr) (n : Nat) (es : List Ed) : Prop :=
 es.length = n ∧ (0 < n → ∃ b o, A = some ⟨b, o, none⟩ ∧ b < w.heap.size ∧ ∀ i, i < n → w.cell? ⟨b, o + i * 4, none⟩ = some (.int .i64 (ge es i).a) ∧ w.cell? ⟨b, o + i * 4 + 1, none⟩ = some (.int .i64 (ge es i).b) ∧ w.cell? ⟨b, o + i * 4 + 2, none⟩ = some (.int .i64 (ge es i).k) ∧ w.cell? ⟨b, o + i * 4 + 3, none⟩ = some (.int .i64 (ge es i).c))
theorem Nds.later {w w' : World} {A : Option Addr} {n : Nat} {ns : List Nd} (h : Nds w A n ns) (hb : Below w.heap.size w w') : Nds w' A n ns :=
 ⟨h.1, fun hn => by
  obtain ⟨b, o, e, hl, hc⟩ := h.2 hn
  exact ⟨b, o, e, Nat.lt_of_lt_of_le hl hb.size, fun i hi => ⟨(hb.cell (p := ⟨b, _, none⟩) hl).trans (hc i hi).1, (hb.cell (p := ⟨b, _, none⟩) hl).trans (hc i hi).2.1, (hb.cell (p := ⟨b, _, none⟩) hl).trans (hc i hi).2.2⟩⟩⟩
theorem Eds.later {w w' : World} {A : Option Addr} {n : Nat} {es : List Ed} (h : Eds w A n es) (hb : Below w.heap.size w w') : Eds w' A n es :=
 ⟨h.1, fun hn => by
  obtain ⟨b, o, e, hl, hc⟩ := h.2 hn
  exact ⟨b, o, e, Nat.lt_of_lt_of_le hl hb.size, fun i hi => ⟨(hb.cell (p := ⟨b, _, none⟩) hl).trans (hc i hi).1, (hb.cell (p := ⟨b, _, none⟩) hl).trans (hc i hi).2.1, (hb.cell (p := ⟨b, _, none⟩) hl).trans (hc i hi).2.2.1, (hb.cell (p := ⟨b, _, none⟩) hl).trans (hc i hi).2.2.2⟩⟩⟩
theorem Kept.toBelow {w w' : World} (h : Kept [] w w') : Below w.heap.size w w' := ⟨h.os, h.tape, h.output, h.size, fun k hk => h.block k hk (by simp)⟩
theorem Nds.kept {w w' : World} {A : Option Addr} {n : Nat} {ns : List Nd} (h : Nds w A n ns) (hk : Kept [] w w') : Nds w' A n ns := h.later hk.toBelow
theorem Eds.kept {w w' : World} {A : Option Addr} {n : Nat} {es : List Ed} (h : Eds w A n es) (hk : Kept [] w w') : Eds w' A n es := h.later hk.toBelow
structure Sup (w : World) (A1 : Option Addr) (n1 c1 : Nat) (A2 : Option Addr) (n2 c2 : Nat) (ns : List Nd) (es : List Ed) : Prop where
 nd : Nds w A1 n1 ns
 ed : Eds w A2 n2 es
 b1 : n1 ≤ c1 ∧ c1 ≤ 9223372036854775807
 b2 : n2 ≤ c2 ∧ c2 ≤ 9223372036854775807
theorem Sup.later {w w' : World} {A1 A2 : Option Addr} {n1 c1 n2 c2 : Nat} {ns : List Nd} {es : List Ed} (h : Sup w A1 n1 c1 A2 n2 c2 ns es) (hb : Below w.heap.size w w') : Sup w' A1 n1 c1 A2 n2 c2 ns es := ⟨h.nd.later hb, h.ed.later hb, h.b1, h.b2⟩
theorem Sup.kept {w w' : World} {A1 A2 : Option Addr} {n1 c1 n2 c2 : Nat} {ns : List Nd} {es : List Ed} (h : Sup w A1 n1 c1 A2 n2 c2 ns es) (hk : Kept [] w w') : Sup w' A1 n1 c1 A2 n2 c2 ns es := h.later hk.toBelow
namespace Sp
def kindAt (ns : List Nd) (f k : Int) : Int := match ns.findIdx? (fun n => n.f == f && n.k == k) with | some i => (i : Int) | none => -1
theorem kind_hit {ns : List Nd} {f k : Int} {i : Nat} (h : ∀ j, j < i → ((gn ns j).f == f && (gn ns j).k == k) = false) (hi : i < ns.length) (e : ((gn ns i).f == f && (gn ns i).k == k) = true) : kindAt ns f k = i := by
 unfold kindAt
 have : ns.findIdx? (fun n => n.f == f && n.k == k) = some i := by
  rw [List.findIdx?_eq_some_iff_getElem]
  refine ⟨hi, by rw [gn_lt hi] at e; exact e, fun j hj => ?_⟩
  have := h j hj
  rw [gn_lt (by omega)] at this
  simp [this]
 rw [this]
theorem kind_miss {ns : List Nd} {f k : Int} (h : ∀ j, j < ns.length → ((gn ns j).f == f && (gn ns j).k == k) = false) : kindAt ns f k = -1 := by
 unfold kindAt
 have : ns.findIdx? (fun n => n.f == f && n.k == k) = none := by
  rw [List.findIdx?_eq_none_iff]
  intro x hx
  obtain ⟨j, hj, rfl⟩ := List.getElem_of_mem hx
  have := h j hj
  rwa [gn_lt hj] at this
 rw [this]
end Sp
end Go.Df
namespace Go.Proofs.YtincpmdldpakkaaGreatDoor
open Go.RowKit Go.Df
attribute [local go_sem ↓] Go.wp_at_zero Go.wp_at_succ
set_option maxHeartbeats 1000000 in
theorem kind_any (A1 A2 : Option Addr) (n1 c1 n2 c2 : Nat) (mn f k : Int) (ns : List Sp.Nd) (w : World) (hn : Nds w A1 n1 ns) (hs : n1 ≤ 1000000) :
   Calls Tryz.prog 175 #[.agg #[.slice A1 n1 c1, .slice A2 n2 c2, .int .i64 mn], .int .i64 f, .int .i64 k] w fun e w' => e = .returned (.int .i64 (Sp.kindAt ns f k)) ∧ Below w.heap.size w w' := by
 have HN := Lib.hid hn
 have HL := Lib.hid hn.1
 clear hn
 go_enter Tryz.func175, Tryz.ntmps175
 go_upto_region 1 with fail
 refine wp_named (fun W => ∃ b0, w.heap.size = b0 ∧ Blk W b0 [.slice A1 n1 c1, .slice A2 n2 c2, .int .i64 mn] ∧ Below w.heap.size w W) ⟨_, rfl, ?_, ?_⟩ ?_
 · exact kbn
 · go_grown
 rintro W ⟨b0, e0, B0, hB⟩
 rw [e0]
 have G0 : w.heap.size ≤ b0 := by omega
 clear e0
 have ⟨L0, C0, F0⟩ := B0
 go_wp2_with fail
 go_loop [7] (fun i => ∃ j : Nat, j ≤ n1 ∧ i = .int .i64 j ∧ Hid (∀ x, x < j → ((gn ns x).f == f && (gn ns x).k == k) = false)) (fun i => n1 - (intOf i).toNat)
 case atStart => exact ⟨0, Nat.zero_le _, rfl, Lib.hid (fun j hj => absurd hj (by omega))⟩
 case round =>
   obtain ⟨j, hj, rfl, hno⟩ := hrel
   by_cases hlt : j < n1
   · obtain ⟨b, o, rfl, hl, hc⟩ := HN.out.2 (by omega)
     obtain ⟨h1, h2, h3⟩ := hc j hlt
     have hW : Hid (b < w.heap.size) := Lib.hid hl
     have g1 : W.cell? ⟨b, o + j * 3, none⟩ = some (.int .i64 (gn ns j).f) := (hB.cell (p := ⟨b, _, none⟩) hl).trans h1
     have g2 : W.cell? ⟨b, o + j * 3 + 1, none⟩ = some (.int .i64 (gn ns j).k) := (hB.cell (p := ⟨b, _, none⟩) hl).trans h2
     clear hc h1 h2 h3 hl
     by_cases e1 : (gn ns j).f = f
     · have e1' : ((gn ns j).f == f) = true := by simpa using e1
       by_cases e2 : (gn ns j).k = k
       · have e2' : ((gn ns j).k == k) = true := by simpa using e2
         have hh : Hid (Sp.kindAt ns f k = j) := Lib.hid (Sp.kind_hit hno.out (by rw [HL.out]; exact hlt) (by simp [e1', e2']))
         clear e1 e2
         go_wp2_with fail
         go_ret
         exact ⟨ret_int hh.out.symm, hB⟩
       · have e2' : ((gn ns j).k == k) = false := by simpa using e2
         have hno' : Hid (∀ x, x < j + 1 → ((gn ns x).f == f && (gn ns x).k == k) = false) := fun x hx => by
           rcases Nat.lt_or_ge x j with h9 | h9
           · exact hno.out x h9
           · obtain rfl : x = j := by omega
             rw [e2', Bool.and_false]
         clear e1 e2
         go_wp2_with fail
         exact ⟨⟨j + 1, by omega, by go_num, hno'⟩, by simp [intOf]; omega⟩
     · have e1' : ((gn ns j).f == f) = false := by simpa using e1
       have hno' : Hid (∀ x, x < j + 1 → ((gn ns x).f == f && (gn ns x).k == k) = false) := fun x hx => by
         rcases Nat.lt_or_ge x j with h9 | h9
         · exact hno.out x h9
         · obtain rfl : x = j := by omega
           rw [e1', Bool.false_and]
       clear e1
       go_wp2_with fail
       exact ⟨⟨j + 1, by omega, by go_num, hno'⟩, by simp [intOf]; omega⟩
   · go_wp2_with fail
     go_ret
     exact ⟨ret_int (Sp.kind_miss (fun x hx => hno.out x (by rw [HL.out] at hx; omega))).symm, hB⟩
end Go.Proofs.YtincpmdldpakkaaGreatDoor
