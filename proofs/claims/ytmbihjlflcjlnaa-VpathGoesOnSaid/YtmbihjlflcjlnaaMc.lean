/- Maps whose elements are kept as they are; tables of maps. No program in sight. -/
import Derived.Test.YtmbihjlflcjlnaaMa
namespace Go.Df
open Go.RowKit Go.Maps Go.ChangeMaps
/-- An element that is kept as it is. -/
def tokElem (v : Value) : Option (DataW Value × List MemPlace) := some (.held v, [])
/-- Block b is a map of at most n entries; at each key its element, or z, is what f says. -/
def MapT (P : Program) (k : TypeId) (z : Value) (w : World) (b n : Nat) (f : Value → Value) : Prop :=
  ∃ D : DataW Value, w.ownsMap P k tokElem b n D ∧ ∀ key kl, keyOf P k key = some kl → D.atKey kl (.held z) = .held (f key)
theorem MapT.made (P : Program) (k : TypeId) (z : Value) (w : World) (b : Nat) (hb : b = w.heap.size) : MapT P k z (w.alloc (.map #[] 0)) b 0 (fun _ => z) := by
  subst hb
  exact ⟨_, World.ownsMap_made w P k _, fun _ _ _ => rfl⟩
theorem MapT.mono {P : Program} {k : TypeId} {z : Value} {w : World} {b n n' : Nat} {f : Value → Value} (h : MapT P k z w b n f) (hn : n ≤ n') : MapT P k z w b n' f :=
  let ⟨D, h1, h2⟩ := h; ⟨D, h1.mono hn, h2⟩
theorem MapT.lt {P : Program} {k : TypeId} {z : Value} {w : World} {b n : Nat} {f : Value → Value} (h : MapT P k z w b n f) : b < w.heap.size :=
  let ⟨_, h1, _⟩ := h; h1.lt
theorem MapT.obj {P : Program} {k : TypeId} {z : Value} {w : World} {b n : Nat} {f : Value → Value} (h : MapT P k z w b n f) : ∃ es clock, w.heap[b]? = some (.map es clock) :=
  let ⟨_, ⟨es, clock, h1, _⟩, _⟩ := h; ⟨es, clock, h1⟩
theorem MapT.ext {P : Program} {k : TypeId} {z : Value} {w : World} {b n : Nat} {f g : Value → Value} (h : MapT P k z w b n f) (hg : ∀ key, f key = g key) : MapT P k z w b n g :=
  let ⟨D, h1, h2⟩ := h; ⟨D, h1, fun key kl hk => by rw [h2 key kl hk, hg key]⟩
theorem MapT.same {P : Program} {k : TypeId} {z : Value} {w w' : World} {b n : Nat} {f : Value → Value} (h : MapT P k z w b n f) (hk : w'.heap[b]? = w.heap[b]?) : MapT P k z w' b n f := by
  obtain ⟨D, ⟨es, clock, h1, h2⟩, h3⟩ := h
  exact ⟨D, ⟨es, clock, hk.trans h1, h2⟩, h3⟩
theorem MapT.kept {P : Program} {k : TypeId} {z : Value} {w w' : World} {b n : Nat} {f : Value → Value} {X : List Nat} (h : MapT P k z w b n f) (hk : Kept X w w') (hX : b ∉ X) : MapT P k z w' b n f :=
  h.same (hk.block b h.lt hX)
theorem MapT.look {P : Program} {k e t : TypeId} {z : Value} {w : World} {b n : Nat} {f : Value → Value} (h : MapT P k z w b n f) (K : Keyed P k) (ht : P.underlying t = some (.map k e)) (hz : (zeroValue e).run P w = .ok z w)
    {key : Value} {kl : Lit} (hkey : keyOf P k key = some kl) : (Instr.lookup t (.map (some b)) key false).run P w = .ok (f key) w := by
  obtain ⟨D, h1, h2⟩ := h
  obtain ⟨v, ps, hrun, hv⟩ := h1.lookup K ht hz (zd := .held z) (zp := []) rfl hkey
  rw [h2 key kl hkey] at hv
  unfold tokElem at hv
  injection hv with hv
  injection hv with hv _
  injection hv with hv
  rw [hrun, hv]
theorem MapT.store {P : Program} {k e t : TypeId} {z : Value} {w : World} {b n : Nat} {f : Value → Value} (h : MapT P k z w b n f) (K : Keyed P k) (ht : P.underlying t = some (.map k e)) (hn : n < maxLen)
    {key val : Value} {kl : Lit} (hkey : keyOf P k key = some kl) (g : Value → Value) (g1 : g key = val) (g2 : ∀ x, x ≠ key → g x = f x) :
    ∃ w', (Instr.mapUpdate t (.map (some b)) key val).run P w = .ok () w' ∧ MapT P k z w' b (n + 1) g ∧ Kept [b] w w' := by
  obtain ⟨D, h1, h2⟩ := h
  have hm := h1.isMap
  obtain ⟨w', hrun, h3, hg⟩ := h1.update K ht hn hkey (d := .held val) (ps := []) rfl
  refine ⟨w', hrun, ⟨_, h3, fun key' kl' hk' => ?_⟩, ⟨hg.1, hg.2, hg.3, hg.4, fun j hj hx => hg.5 j hj (by simp at hx; intro hh; exact hx (by simpa using hh))⟩⟩
  by_cases hkk : key' = key
  · subst hkk
    obtain rfl : kl' = kl := by rw [hkey] at hk'; exact (Option.some.inj hk').symm
    rw [atKey_put_same hm (K.key hkey), g1]
  · have hne : kl' ≠ kl := fun hh => hkk (K.inj (by rw [← hh]; exact hk') hkey)
    rw [atKey_put_other hne, g2 _ hkk]
    exact h2 key' kl' hk'
theorem wpList_store_mapT {P : Program} (w : World) {ops : Array Oper} {rest : List Oper} {o : Oper} {a : Act} {Q : Exit → Act → World → Prop}
    (hg : o.guard = none) (m x v : Operand) (t : TypeId) (hop : o.op = Op.mapUpdate t m x v)
    (k e : TypeId) (K : Keyed P k) (ht : P.underlying t = some (.map k e)) (z : Value) (b n : Nat) (f : Value → Value)
    (hm : a.eval m = .map (some b)) (hown : MapT P k z w b n f) (hn : n < maxLen) (key val : Value) (kl : Lit) (hx : a.eval x = key) (hv : a.eval v = val) (hkey : keyOf P k key = some kl)
    (g : Value → Value) (g1 : g key = val) (g2 : ∀ x, x ≠ key → g x = f x)
    (hK : ∀ w', MapT P k z w' b (n + 1) g → Kept [b] w w' → wpList P ops Q rest (a.put o.dst undef) w') :
    wpList P ops Q (o :: rest) a w := by
  refine wpList_plain hg fun K' hK' => ?_
  obtain ⟨w', hrun, r1, r2⟩ := hown.store K ht hn hkey g g1 g2
  unfold Oper.wp
  simp [execOp, hop, hm, hx, hv, hrun, Result.andThen]
  exact hK' _ _ (hK w' r1 r2)
theorem keptWide {X Y : List Nat} {w w' : World} (h : Kept X w w') (hx : ∀ x ∈ X, x ∈ Y) : Kept Y w w' := ⟨h.os, h.tape, h.output, h.size, fun k hk hn => h.block k hk (fun hm => hn (hx k hm))⟩
/-- A block of cells of a type, none of them frozen. -/
def Tag (w : World) (b : Nat) (t : TypeId) : Prop := ∃ cur, w.heap[b]? = some (.cells cur t (0, 0))
theorem Tag.lt {w : World} {b : Nat} {t : TypeId} (h : Tag w b t) : b < w.heap.size := by
  obtain ⟨cur, h⟩ := h
  exact (Array.getElem?_eq_some_iff.1 h).1
theorem Tag.same {w w' : World} {b : Nat} {t : TypeId} (h : Tag w b t) (hk : w'.heap[b]? = w.heap[b]?) : Tag w' b t := let ⟨cur, h⟩ := h; ⟨cur, hk.trans h⟩
theorem Tag.new (w : World) (cur : Array Value) (t : TypeId) (b : Nat) (hb : b = w.heap.size) : Tag (w.alloc (.cells cur t)) b t := by
  subst hb
  exact ⟨cur, heap_alloc_new w _⟩
theorem Tag.frozen {w : World} {b : Nat} {t : TypeId} (h : Tag w b t) (i : Nat) : w.frozen? ⟨b, i, none⟩ = false := by
  obtain ⟨cur, h⟩ := h
  simp [World.frozen?, h]
theorem Tag.set {w : World} {b : Nat} {t : TypeId} (h : Tag w b t) (x i : Nat) (v : Value) : Tag (w.setCell ⟨x, i, none⟩ v) b t := by
  obtain ⟨cur, h⟩ := h
  by_cases e : b = x
  · subst e
    unfold Tag World.setCell
    simp only [Array.getElem?_modify]
    simp [h]
  · exact ⟨cur, (RowKit.Below.heap_setCell _ _ _ _ e).trans h⟩
theorem Tag.ne_map {w : World} {b x : Nat} {t : TypeId} (h : Tag w b t) (hx : ∃ es clock, w.heap[x]? = some (.map es clock)) : b ≠ x := by
  rintro rfl
  obtain ⟨cur, h⟩ := h
  obtain ⟨es, clock, hx⟩ := hx
  rw [h] at hx
  cases hx
theorem Tag.ne {w : World} {b x : Nat} {t u : TypeId} (h : Tag w b t) (hx : Tag w x u) (hn : t ≠ u) : b ≠ x := by
  rintro rfl
  obtain ⟨cur, h⟩ := h
  obtain ⟨cur', hx⟩ := hx
  rw [h] at hx
  injection hx with hx
  injection hx with _ hx _
  exact hn hx
theorem own_tag {w : World} {base : Nat} {e : TypeId} {size : Nat} {v : Value} {n : Nat} {xs : List Value} (h : w.ownsRow base e size v n xs) {g : Nat} (hg : v.ownBlock = some g) : Tag w g e := by
  rcases h.2 with ⟨rfl, _⟩ | ⟨g', cap, cur, rfl, _, h1, _⟩
  · cases hg
  · injection hg with hg
    subst hg
    exact ⟨cur, h1⟩
/-- The blocks below base, and those of other types than TS, are as they were. -/
structure Kb (TS : List TypeId) (base : Nat) (w w' : World) : Prop where
  os : w'.os = w.os
  tape : w'.tape = w.tape
  output : w'.output = w.output
  size : w.heap.size ≤ w'.heap.size
  low : ∀ k, k < w.heap.size → k < base → w'.heap[k]? = w.heap[k]?
  tag : ∀ k t, Tag w k t → t ∉ TS → w'.heap[k]? = w.heap[k]?
theorem Kb.refl (TS : List TypeId) (base : Nat) (w : World) : Kb TS base w w := ⟨rfl, rfl, rfl, Nat.le_refl _, fun _ _ _ => rfl, fun _ _ _ _ => rfl⟩
theorem Kb.trans {TS : List TypeId} {base : Nat} {w w' w'' : World} (h : Kb TS base w w') (k : Kb TS base w' w'') : Kb TS base w w'' :=
  ⟨k.os.trans h.os, k.tape.trans h.tape, k.output.trans h.output, Nat.le_trans h.size k.size, fun x hx hb => (k.low x (Nat.lt_of_lt_of_le hx h.size) hb).trans (h.low x hx hb),
    fun x t ht hn => (k.tag x t (ht.same (h.tag x t ht hn)) hn).trans (h.tag x t ht hn)⟩
theorem Kb.of_kept {TS : List TypeId} {base : Nat} {X : List Nat} {w w' : World} (h : Kept X w w') (hX : ∀ x ∈ X, base ≤ x ∧ ∀ t, Tag w x t → t ∈ TS) : Kb TS base w w' :=
  ⟨h.os, h.tape, h.output, h.size, fun k hk hb => h.block k hk (fun hm => by have := (hX k hm).1; omega), fun k t ht hn => h.block k ht.lt (fun hm => hn ((hX k hm).2 t ht))⟩
theorem Kb.of_same {TS : List TypeId} {base : Nat} {w w' : World} (h : Kept [] w w') : Kb TS base w w' := Kb.of_kept h (by simp)
theorem Kb.below {TS : List TypeId} {base : Nat} {w w' : World} (h : Kb TS base w w') (hb : base ≤ w.heap.size) : Below base w w' :=
  ⟨h.os, h.tape, h.output, h.size, fun k hk => h.low k (by omega) hk⟩
theorem Kb.call {TS : List TypeId} {base : Nat} {w w' w'' : World} (h : Kb TS base w w') (hb : Below w'.heap.size w' w'') : Kb TS base w w'' := h.trans (Kb.of_same ((Kept.refl _ _).call hb))
/-- A table: a row of maps, each of its own; at row n and a key, what v says. -/
structure Tb (P : Program) (k tM : TypeId) (z : Value) (w : World) (r N : Nat) (m : Nat → Option Nat) (c : Nat → Nat) (v : Nat → Value → Value) : Prop where
  row : ∃ cur, w.heap[r]? = some (.cells cur tM (0, 0)) ∧ cur.size = N ∧ ∀ n, n < N → cur[n]? = some (.map (m n))
  is : ∀ n b, n < N → m n = some b → MapT P k z w b (c n) (v n)
  no : ∀ n, n < N → m n = none → ∀ a, v n a = z
  inj : ∀ n n' b, n < N → n' < N → m n = some b → m n' = some b → n = n'
variable {P : Program} {k tM : TypeId} {z : Value} {w : World} {r N : Nat} {m : Nat → Option Nat} {c : Nat → Nat} {v : Nat → Value → Value}
theorem Tb.rtag (h : Tb P k tM z w r N m c v) : Tag w r tM := let ⟨cur, h1, _⟩ := h.row; ⟨cur, h1⟩
theorem Tb.cell (h : Tb P k tM z w r N m c v) {n : Nat} (hn : n < N) : w.cell? ⟨r, n, none⟩ = some (.map (m n)) := by
  obtain ⟨cur, h1, _, h3⟩ := h.row
  simp [World.cell?, h1, h3 n hn]
theorem Tb.kept {X : List Nat} {w' : World} (h : Tb P k tM z w r N m c v) (hk : Kept X w w') (hr : r ∉ X) (hm : ∀ n b, n < N → m n = some b → b ∉ X) : Tb P k tM z w' r N m c v := by
  obtain ⟨cur, h1, h2, h3⟩ := h.row
  exact ⟨⟨cur, (hk.block r h.rtag.lt hr).trans h1, h2, h3⟩, fun n b hn hb => (h.is n b hn hb).kept hk (hm n b hn hb), h.no, h.inj⟩
/-- A table behind a call that turns other blocks only, by their types. -/
theorem Tb.ext (h : Tb P k tM z w r N m c v) {v' : Nat → Value → Value} (hv : ∀ n a, v n a = v' n a) : Tb P k tM z w r N m c v' := by
  have : v = v' := funext fun n => funext fun a => hv n a
  subst this
  exact h
open Classical in
noncomputable def updV (v : Nat → Value → Value) (n : Nat) (key x : Value) : Nat → Value → Value := fun n' key' => if n' = n ∧ key' = key then x else v n' key'
/-- A store into the map of a row. -/
theorem Tb.stored {w' : World} {n b : Nat} {key x : Value} (h : Tb P k tM z w r N m c v) (hn : n < N) (hb : m n = some b) (hk : Kept [b] w w') (hm : MapT P k z w' b (c n + 1) (updV v n key x n)) :
    Tb P k tM z w' r N m (fun i => if i = n then c n + 1 else c i) (updV v n key x) := by
  obtain ⟨cur, h1, h2, h3⟩ := h.row
  have hne : r ≠ b := h.rtag.ne_map (h.is n b hn hb).obj
  refine ⟨⟨cur, (hk.block r h.rtag.lt (by simpa using hne)).trans h1, h2, h3⟩, fun i b' hi hb' => ?_, fun i hi hi' a => ?_, h.inj⟩
  · by_cases e : i = n
    · subst e
      obtain rfl : b' = b := by rw [hb] at hb'; exact (Option.some.inj hb').symm
      simpa using hm
    · have h4 := (h.is i b' hi hb').kept hk (by intro hm'; simp at hm'; subst hm'; exact e (h.inj i n b' hi hn hb' hb))
      simp only [if_neg e]
      refine h4.ext fun a => ?_
      simp [updV, e]
  · have e : i ≠ n := by rintro rfl; rw [hb] at hi'; cases hi'
    simp only [updV]
    rw [if_neg (fun hh => e hh.1)]
    exact h.no i hi hi' a
/-- A row gets a map of its own. -/
theorem Tb.fresh {n b : Nat} (h : Tb P k tM z w r N m c v) (hn : n < N) (hm : m n = none) (hb : b = w.heap.size) :
    Tb P k tM z ((w.alloc (.map #[] 0)).setCell ⟨r, n, none⟩ (.map (some b))) r N (fun i => if i = n then some b else m i) c v := by
  subst hb
  obtain ⟨cur, h1, h2, h3⟩ := h.row
  have hr := h.rtag.lt
  have h1' : (w.alloc (.map #[] 0)).heap[r]? = some (.cells cur tM (0, 0)) := (((Kept.refl [] w).alloc _).block r hr (by simp)).trans h1
  have hrow : ((w.alloc (.map #[] 0)).setCell ⟨r, n, none⟩ (.map (some w.heap.size))).heap[r]? = some (.cells (cur.setIfInBounds n (.map (some w.heap.size))) tM (0, 0)) := by
    unfold World.setCell
    simp only [Array.getElem?_modify]
    simp [h1']
  have hkx : Kept [r] (w.alloc (.map #[] 0)) ((w.alloc (.map #[] 0)).setCell ⟨r, n, none⟩ (.map (some w.heap.size))) := (Kept.refl _ _).set _ _ _ (.inl (by simp))
  refine ⟨⟨_, hrow, by simpa using h2, fun i hi => ?_⟩, fun i b' hi hb' => ?_, fun i hi hi' => ?_, fun i j b' hi hj hbi hbj => ?_⟩
  · by_cases e : i = n
    · subst e
      simp [h2, hi]
    · rw [Array.getElem?_setIfInBounds_ne (Ne.symm e), h3 i hi, if_neg e]
  · by_cases e : i = n
    · subst e
      rw [if_pos rfl] at hb'
      injection hb' with hb'
      subst hb'
      have h5 : MapT P k z (w.alloc (.map #[] 0)) w.heap.size (c i) (v i) := ((MapT.made P k z w _ rfl).mono (Nat.zero_le _)).ext fun a => (h.no i hi hm a).symm
      exact h5.kept hkx (by simp; omega)
    · rw [if_neg e] at hb'
      have h4 := (h.is i b' hi hb').kept ((Kept.refl [] w).alloc (.map #[] 0)) (by simp)
      have h5 : b' ≠ r := (h.rtag.ne_map (h.is i b' hi hb').obj).symm
      exact h4.kept hkx (by simpa using h5)
  · by_cases e : i = n
    · subst e; rw [if_pos rfl] at hi'; cases hi'
    · rw [if_neg e] at hi'
      exact h.no i hi hi'
  · by_cases e : i = n
    · by_cases e' : j = n
      · omega
      · subst e
        rw [if_pos rfl] at hbi
        rw [if_neg e'] at hbj
        injection hbi with hbi
        have := (h.is j b' hj hbj).lt
        omega
    · rw [if_neg e] at hbi
      by_cases e' : j = n
      · subst e'
        rw [if_pos rfl] at hbj
        injection hbj with hbj
        have := (h.is i b' hi hbi).lt
        omega
      · rw [if_neg e'] at hbj
        exact h.inj i j b' hi hj hbi hbj
end Go.Df
