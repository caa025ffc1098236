/- Sets of small numbers as words, in plain words. -/
import Derived.Test.YtmbihjlflcjlnaaGreatLr
import Derived.Laws.Bits64b
import Derived.Laws.MakeOwn
namespace Go.Df
open Go.RowKit
def gw (l : List Nat) (i : Nat) : Nat := l.getD i 0
theorem gw_lt {l : List Nat} {i : Nat} (h : i < l.length) : gw l i = l[i] := by simp [gw, h]
theorem gw_ge {l : List Nat} {i : Nat} (h : l.length ≤ i) : gw l i = 0 := by simp [gw, h]
/-- Is x in the set that the words are? -/
def hasB (l : List Nat) (x : Nat) : Bool := (gw l (x / 64)).testBit (x % 64)
/-- The words lie in memory. -/
def Bts (w : World) (A : Option Addr) (n : Nat) (l : List Nat) : Prop :=
  l.length = n ∧ (∀ i, gw l i < 18446744073709551616) ∧ (0 < n → ∃ b o, A = some ⟨b, o, none⟩ ∧ b < w.heap.size ∧ ∀ i, i < n → w.cell? ⟨b, o + i, none⟩ = some (.int .u64 (gw l i)))
theorem Bts.keptX {X : List Nat} {w w' : World} {A : Option Addr} {n : Nat} {l : List Nat} (h : Bts w A n l) (hk : Kept X w w') (hx : 0 < n → ∀ a, A = some a → a.block ∉ X) : Bts w' A n l :=
  ⟨h.1, h.2.1, fun hn => by
    obtain ⟨b, o, e, hl, hc⟩ := h.2.2 hn
    exact ⟨b, o, e, Nat.lt_of_lt_of_le hl hk.size, fun i hi => (hk.cell b (o + i) hl (hx hn _ e)).trans (hc i hi)⟩⟩
theorem Bts.kept {w w' : World} {A : Option Addr} {n : Nat} {l : List Nat} (h : Bts w A n l) (hk : Kept [] w w') : Bts w' A n l := h.keptX hk (by simp)
theorem Bts.later {w w' : World} {A : Option Addr} {n : Nat} {l : List Nat} (h : Bts w A n l) (hb : Below w.heap.size w w') : Bts w' A n l := h.kept ((Kept.refl _ _).call hb)
theorem Bts.nil (w : World) : Bts w none 0 [] := ⟨rfl, fun i => by simp [gw], fun h => absurd h (by omega)⟩
theorem hasB_nil (x : Nat) : hasB [] x = false := by simp [hasB, gw]
theorem hasB_ge {l : List Nat} {x : Nat} (h : l.length * 64 ≤ x) : hasB l x = false := by
  unfold hasB
  rw [gw_ge (by omega)]
  simp
theorem hasB_lt {l : List Nat} {x : Nat} (h : hasB l x = true) : x < l.length * 64 := by
  rcases Nat.lt_or_ge x (l.length * 64) with h1 | h1
  · exact h1
  · rw [hasB_ge h1] at h; cases h
/-- Words behind the end that are 0 do not matter. -/
theorem hasB_take {l : List Nat} {n : Nat} (h : ∀ i, n ≤ i → i < l.length → gw l i = 0) (x : Nat) : hasB (l.take n) x = hasB l x := by
  unfold hasB
  rcases Nat.lt_or_ge (x / 64) n with h1 | h1
  · have : gw (l.take n) (x / 64) = gw l (x / 64) := by simp [gw, h1]
    rw [this]
  · rw [gw_ge (by rw [List.length_take]; omega)]
    rcases Nat.lt_or_ge (x / 64) l.length with h2 | h2
    · rw [h _ h1 h2]
    · rw [gw_ge h2]
theorem gw_take {l : List Nat} {n i : Nat} (h : i < n) : gw (l.take n) i = gw l i := by simp [gw, h]
/-- The set with one more element. -/
def setB (l : List Nat) (n x : Nat) : List Nat := (List.range n).map fun i => if i = x / 64 then gw l i ||| 2 ^ (x % 64) else gw l i
theorem setB_len (l : List Nat) (n x : Nat) : (setB l n x).length = n := by simp [setB]
theorem gw_setB {l : List Nat} {n x i : Nat} (h : i < n) : gw (setB l n x) i = if i = x / 64 then gw l i ||| 2 ^ (x % 64) else gw l i := by
  rw [gw_lt (by rw [setB_len]; exact h)]
  simp [setB]
theorem hasB_set {l : List Nat} {n x : Nat} (h1 : l.length ≤ n) (h2 : x / 64 < n) (y : Nat) : hasB (setB l n x) y = (hasB l y || y == x) := by
  unfold hasB
  rcases Nat.lt_or_ge (y / 64) n with h3 | h3
  · rw [gw_setB h3]
    by_cases e : y / 64 = x / 64
    · rw [if_pos e, Nat.testBit_or, Nat.testBit_two_pow]
      congr 1
      by_cases e2 : y = x
      · subst e2; simp
      · have : ¬ (x % 64 = y % 64) := fun h => e2 (by omega)
        simp [this, e2]
    · rw [if_neg e]
      have : y ≠ x := by rintro rfl; exact e rfl
      simp [this]
  · rw [gw_ge (by rw [setB_len]; exact h3), gw_ge (by omega)]
    have : y ≠ x := by rintro rfl; omega
    simp [this]
theorem or_lt64 {a j : Nat} (ha : a < 18446744073709551616) (hj : j < 64) : a ||| 2 ^ j < 18446744073709551616 := by
  have h1 : a < 2 ^ 64 := by omega
  have h2 : 2 ^ j < 2 ^ 64 := Nat.pow_lt_pow_right (by omega) hj
  have := Nat.or_lt_two_pow h1 h2
  omega
/-- The elements among the first m numbers. -/
def elemsB (l : List Nat) (m : Nat) : List Nat := (List.range m).filter (hasB l)
theorem elemsB_succ (l : List Nat) (m : Nat) : elemsB l (m + 1) = if hasB l m = true then elemsB l m ++ [m] else elemsB l m := by
  unfold elemsB
  rw [List.range_succ, List.filter_append]
  by_cases h : hasB l m = true
  · simp [h]
  · simp [h]
theorem elemsB_len (l : List Nat) (m : Nat) : (elemsB l m).length ≤ m := by
  unfold elemsB
  refine Nat.le_trans (List.length_filter_le _ _) ?_
  simp
theorem filter_range {f : Nat → Bool} {m : Nat} (h : ∀ x, f x = true → x < m) : ∀ d, (List.range (m + d)).filter f = (List.range m).filter f
  | 0 => rfl
  | d + 1 => by
    rw [← Nat.add_assoc, List.range_succ, List.filter_append, filter_range h d]
    have : f (m + d) = false := by
      cases hh : f (m + d) with
      | false => rfl
      | true => have := h _ hh; omega
    simp [this]
theorem elemsB_eq {l : List Nat} {F : Nat} {f : Nat → Bool} (h : ∀ x, hasB l x = f x) (hF : ∀ x, f x = true → x < F) : elemsB l (l.length * 64) = (List.range F).filter f := by
  have e : hasB l = f := funext h
  unfold elemsB
  rw [e]
  have h1 := filter_range hF (l.length * 64)
  have h2 := filter_range (f := f) (m := l.length * 64) (fun x hx => hasB_lt (l := l) (by rw [h]; exact hx)) F
  rw [Nat.add_comm] at h1
  rw [← h1, h2]
/-- A word that is 0 has no elements. -/
theorem elemsB_zero {l : List Nat} {i : Nat} (h : gw l i = 0) : ∀ j, j ≤ 64 → elemsB l (i * 64 + j) = elemsB l (i * 64)
  | 0, _ => rfl
  | j + 1, hj => by
    rw [← Nat.add_assoc, elemsB_succ, elemsB_zero h j (by omega)]
    have : hasB l (i * 64 + j) = false := by
      unfold hasB
      rw [show (i * 64 + j) / 64 = i by omega, h]
      simp
    simp [this]
theorem hasB_at {l : List Nat} {i j : Nat} (hj : j < 64) : hasB l (i * 64 + j) = (gw l i).testBit j := by
  unfold hasB
  rw [show (i * 64 + j) / 64 = i by omega, show (i * 64 + j) % 64 = j by omega]
/-- The set without an element, and the union of two. -/
def unionB (a b : List Nat) (n : Nat) : List Nat := (List.range n).map fun i => gw a i ||| gw b i
theorem unionB_len (a b : List Nat) (n : Nat) : (unionB a b n).length = n := by simp [unionB]
theorem gw_unionB {a b : List Nat} {n i : Nat} (h : i < n) : gw (unionB a b n) i = gw a i ||| gw b i := by
  rw [gw_lt (by rw [unionB_len]; exact h)]
  simp [unionB]
theorem hasB_union {a b : List Nat} {n : Nat} (h1 : a.length ≤ n) (h2 : b.length ≤ n) (y : Nat) : hasB (unionB a b n) y = (hasB a y || hasB b y) := by
  unfold hasB
  rcases Nat.lt_or_ge (y / 64) n with h3 | h3
  · rw [gw_unionB h3, Nat.testBit_or]
  · rw [gw_ge (by rw [unionB_len]; exact h3), gw_ge (l := a) (by omega), gw_ge (l := b) (by omega)]
    simp
theorem union_lt64 {a b : Nat} (ha : a < 18446744073709551616) (hb : b < 18446744073709551616) : a ||| b < 18446744073709551616 := by
  have := Nat.or_lt_two_pow (x := a) (y := b) (n := 64) (by omega) (by omega)
  omega
/-- The test of a bit, as the walk writes it. -/
theorem bit_test (v j : Nat) (hv : v < 18446744073709551616) : (bits BinOp.and IntKind.u64 ((v : Int) / 2 ^ j) 1 == 1) = v.testBit j := by
  have h1 : ((v : Int) / 2 ^ j) = ((v / 2 ^ j : Nat) : Int) := by simp
  have h2 := bits_and_u64_nat (v / 2 ^ j) 1 (Nat.lt_of_le_of_lt (Nat.div_le_self _ _) hv) (by omega)
  rw [h1]
  have h3 : (bits BinOp.and IntKind.u64 ((v / 2 ^ j : Nat) : Int) 1) = (((v / 2 ^ j) &&& 1 : Nat) : Int) := h2
  rw [h3, Nat.testBit_eq_decide_div_mod_eq, Nat.and_one_is_mod, Bool.eq_iff_iff]
  simp
  omega
theorem bit_or (v j : Nat) (hv : v < 18446744073709551616) (hj : j < 64) : bits BinOp.or IntKind.u64 (v : Int) (IntKind.u64.wrap (2 ^ j)) = ((v ||| 2 ^ j : Nat) : Int) := by
  have h1 : 2 ^ j < 2 ^ 64 := Nat.pow_lt_pow_right (by omega) hj
  have h2 : IntKind.u64.wrap (2 ^ j) = ((2 ^ j : Nat) : Int) := by
    have e : ((2 : Int) ^ j) = ((2 ^ j : Nat) : Int) := by simp
    rw [e]
    generalize 2 ^ j = m at h1
    exact IntWalk.u64_in _ (by omega)
  rw [h2]
  exact bits_or_u64_nat v (2 ^ j) hv (by omega)
theorem bits_or_nat (u v : Nat) (hu : u < 18446744073709551616) (hv : v < 18446744073709551616) : bits BinOp.or IntKind.u64 (u : Int) (v : Int) = ((u ||| v : Nat) : Int) := bits_or_u64_nat u v hu hv
theorem wpList_make3 {P : Program} (w : World) {ops : Array Oper} {rest : List Oper} {o : Oper} {a : Act} {Q : Exit → Act → World → Prop} (hg : o.guard = none) (l c : Operand) (t : TypeId) (hop : o.op = Op.makeSlice t l c)
    (e : TypeId) (i : TypeInfo) (z : Value) (size bytes : Nat) (ht : P.underlying t = some (.slice e)) (hi : P.info? e = some i) (hz : i.zero = some z) (hsize : i.size = size) (hby : i.bytes = bytes) (n : Nat)
    (hl : a.eval l = .int .i64 (n : Int)) (hc : a.eval c = .int .i64 (n : Int)) (hbytes : bytes * n ≤ 281474976710656) (h63 : n ≤ 9223372036854775807) (M : Array Value) (hM : madeCells z.cells (n * size) = M)
    (hK : wpList P ops Q rest (a.put o.dst (.slice (some ⟨w.heap.size, 0, none⟩) n n)) (w.alloc (.cells M e))) : wpList P ops Q (o :: rest) a w := by
  subst hM hsize hby
  refine wpList_plain hg fun K hK' => ?_
  have hrun := run_make (P := P) w t e i z ht hi hz .i64 .i64 (n : Int) (n : Int) (by omega) (Int.le_refl _) (by rw [← Int.natCast_mul]; omega) (by omega)
  simp only [Int.toNat_natCast] at hrun
  unfold Oper.wp
  simp [execOp, hop, hl, hc, hrun, Result.andThen]
  exact hK' _ _ hK
end Go.Df
