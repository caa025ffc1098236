/- A pack of texts: Qp Qa Qb Qc Qe Qf Qg Qh Ql Qm Qn Qo Qi Qu. -/
import Derived.Test.YtmbihjlflcjlnaaGreatSa
import Derived.Test.YtmbihjlflcjlnaaGreatIn
import Derived.Laws.Bits64b
import Derived.RegionTactic
import Derived.Shelf.Spec.SlicesInsert
import Derived.Shelf.Spec.SlicesInsertGrow
/- The plain functions of package worklist. -/
namespace Go.Proofs.YtmbihjlflcjlnaaGreat.Wl
open Go.Df
/-- May x be an item, with a rank of n elements? -/
def allowed (n : Nat) (x : Int) : Bool := if 0 < n then decide (0 ≤ x) && decide (x < n) else decide (0 ≤ x) && decide (x < 65536)
/-- Does x precede y? -/
def before (r : List Int) (x y : Int) : Bool := if gi r x.toNat = gi r y.toNat then decide (x < y) else decide (gi r x.toNat < gi r y.toNat)
/-- The first index from k on at which x stands in l, or -1. -/
def index (l : List Int) (x : Int) : Int := if x ∈ l then (l.idxOf x : Int) else -1
theorem index_hit {l : List Int} {x : Int} {k : Nat} (h : ∀ j, j < k → gi l j ≠ x) (hk : k < l.length) (e : gi l k = x) : index l x = k := by
  rw [gi_lt hk] at e
  have hm : x ∈ l := e ▸ List.getElem_mem hk
  have h1 : l.idxOf x = k := by
    have hlt : l.idxOf x < l.length := List.idxOf_lt_length_of_mem hm
    have h2 : l[l.idxOf x] = x := List.getElem_idxOf hlt
    rcases Nat.lt_trichotomy (l.idxOf x) k with h3 | h3 | h3
    · exact absurd ((gi_lt hlt).trans h2) (h _ h3)
    · exact h3
    · have := List.not_of_lt_findIdx (p := (· == x)) (xs := l) (i := k) h3
      simp [e] at this
  simp [index, hm, h1]
theorem index_miss {l : List Int} {x : Int} (h : ∀ j, j < l.length → gi l j ≠ x) : index l x = -1 := by
  have hm : x ∉ l := by
    intro hm
    obtain ⟨j, hj, e⟩ := List.getElem_of_mem hm
    exact h j hj ((gi_lt hj).trans e)
  simp [index, hm]
theorem index_nonneg (l : List Int) (x : Int) : (0 ≤ index l x) ↔ x ∈ l := by
  unfold index; split <;> simp_all
/-- Two lists of one length agree. -/
theorem eq_of_gi {a b : List Int} (hl : a.length = b.length) (h : ∀ j, j < a.length → gi a j = gi b j) : a = b := by
  apply List.ext_getElem hl
  intro j h1 h2
  rw [← gi_lt h1, ← gi_lt h2, h j h1]
/-- What is left of the first k elements without x. -/
def wo (l : List Int) (x : Int) (k : Nat) : List Int := (l.take k).filter (fun y => y != x)
theorem take_snoc {l : List Int} {k : Nat} (hk : k < l.length) : l.take (k + 1) = l.take k ++ [gi l k] := by
  rw [List.take_succ_eq_append_getElem hk, gi_lt hk]
theorem wo_keep {l : List Int} {x : Int} {k : Nat} (hk : k < l.length) (h : (gi l k != x) = true) : wo l x (k + 1) = wo l x k ++ [gi l k] := by
  unfold wo; rw [take_snoc hk, List.filter_append]; simp [h]
theorem wo_drop {l : List Int} {x : Int} {k : Nat} (hk : k < l.length) (h : (gi l k != x) = false) : wo l x (k + 1) = wo l x k := by
  unfold wo; rw [take_snoc hk, List.filter_append]; simp [h]
theorem wo_le (l : List Int) (x : Int) (k : Nat) : (wo l x k).length ≤ k :=
  Nat.le_trans (List.length_filter_le _ _) (List.length_take_le _ _)
/-- A list without an item. -/
def without (l : List Int) (x : Int) : List Int := l.filter (fun y => y != x)
theorem wo_all {l : List Int} {x : Int} {k : Nat} (hk : l.length ≤ k) : wo l x k = without l x := by
  unfold wo without; rw [List.take_of_length_le hk]
/-- The error of the item at k: out of range, seen before, out of order; 0 if there is none. -/
def err (r l : List Int) (k : Nat) : Int :=
  if allowed r.length (gi l k) = false then 4 else if gi l k ∈ l.take k then 7
  else if 0 < r.length ∧ 0 < k ∧ before r (gi l k) (gi l (k - 1)) = true then 13 else 0
/-- The first error of the items from k on, n of them. -/
def errs (r l : List Int) : Nat → Nat → Int
  | _, 0 => 0
  | k, n + 1 => if err r l k = 0 then errs r l (k + 1) n else err r l k
/-- The error of a worklist. -/
def chk (r l : List Int) : Int := if 8192 < r.length ∨ 8192 < l.length then 3 else errs r l 0 l.length
theorem errs_hit {r l : List Int} (n : Nat) : ∀ (k j : Nat), (∀ i, k ≤ i → i < j → err r l i = 0) → k ≤ j → j < k + n → err r l j ≠ 0 → errs r l k n = err r l j := by
  induction n with
  | zero => intro k j _ h1 h2; omega
  | succ n ih =>
    intro k j h h1 h2 h3
    rw [errs]
    rcases Nat.lt_or_ge k j with h4 | h4
    · rw [if_pos (h k (Nat.le_refl _) h4)]
      exact ih (k + 1) j (fun i hi hj => h i (by omega) hj) (by omega) (by omega) h3
    · obtain rfl : k = j := by omega
      rw [if_neg h3]
theorem errs_ok {r l : List Int} (n : Nat) : ∀ k, (∀ i, k ≤ i → i < k + n → err r l i = 0) → errs r l k n = 0 := by
  induction n with
  | zero => intro k _; rfl
  | succ n ih =>
    intro k h
    rw [errs, if_pos (h k (Nat.le_refl _) (by omega))]
    exact ih (k + 1) (fun i hi hj => h i (by omega) (by omega))
theorem chk_hit {r l : List Int} {k : Nat} {e : Int} (hr : r.length ≤ 8192) (hl : l.length ≤ 8192) (h : ∀ j, j < k → err r l j = 0) (hk : k < l.length) (he : err r l k = e) (h0 : e ≠ 0) : chk r l = e := by
  subst he
  rw [chk, if_neg (by omega)]
  exact errs_hit _ 0 k (fun i _ hi => h i hi) (Nat.zero_le _) (by omega) h0
theorem chk_ok {r l : List Int} (hr : r.length ≤ 8192) (hl : l.length ≤ 8192) (h : ∀ j, j < l.length → err r l j = 0) : chk r l = 0 := by
  rw [chk, if_neg (by omega)]
  exact errs_ok _ 0 (fun i _ hi => h i (by omega))
theorem allowed_lt {n : Nat} {x : Int} (h : allowed n x = true) (hn : n ≤ 8192) : 0 ≤ x ∧ x < 65536 ∧ (0 < n → x < n) := by
  unfold allowed at h; split at h <;> simp at h <;> omega

/-- Bit x of the words f says whether x is in S. -/
def Bits (f : Nat → Nat) (S : List Int) : Prop := (∀ i, f i < 18446744073709551616) ∧ ∀ x : Nat, x < 65536 → ((f (x / 64)).testBit (x % 64) = true ↔ (x : Int) ∈ S)
theorem bits_zero : Bits (fun _ => 0) [] := ⟨fun _ => by simp, fun x _ => by simp⟩
theorem bits_set {f : Nat → Nat} {S : List Int} (h : Bits f S) (x : Nat) : Bits (fun i => if i = x / 64 then f i ||| 2 ^ (x % 64) else f i) (S ++ [(x : Int)]) := by
  refine ⟨fun i => ?_, fun y hy => ?_⟩
  · dsimp only
    split
    · have h1 : 2 ^ (x % 64) < 2 ^ 64 := Nat.pow_lt_pow_right (by omega) (Nat.mod_lt _ (by omega))
      have h2 := h.1 i
      exact Nat.or_lt_two_pow (n := 64) (by omega) h1
    · exact h.1 i
  · dsimp only
    have h1 := h.2 y hy
    by_cases e : y / 64 = x / 64
    · rw [if_pos e, Nat.testBit_or, Bool.or_eq_true, h1, Nat.testBit_two_pow, List.mem_append]
      simp only [decide_eq_true_eq, List.mem_singleton]
      constructor
      · rintro (h2 | h2)
        · exact .inl h2
        · exact .inr (by omega)
      · rintro (h2 | h2)
        · exact .inl h2
        · exact .inr (by omega)
    · rw [if_neg e, h1, List.mem_append]
      simp only [List.mem_singleton]
      constructor
      · exact fun h2 => .inl h2
      · rintro (h2 | h2)
        · exact h2
        · exact absurd (by omega : y / 64 = x / 64) e
end Go.Proofs.YtmbihjlflcjlnaaGreat.Wl
/- Contracts of small functions on slices. -/
namespace Go.Proofs.YtmbihjlflcjlnaaGreat
open Go.RowKit Go.Df
set_option maxHeartbeats 400000 in
theorem allowed_any (A1 A2 : Option Addr) (n1 c1 n2 c2 : Nat) (x : Int) (w : World) :
    Calls Tryz.prog 144 #[.agg #[.slice A1 n1 c1, .slice A2 n2 c2], .int .i64 x] w fun e w' => e = .returned (.bool (Wl.allowed n1 x)) ∧ Below w.heap.size w w' := by
  go_enter Tryz.func144, Tryz.ntmps144
  go_wp2
  all_goals (go_ret; refine ⟨ret_bool ?_, by go_grown⟩; simp_all [Wl.allowed] <;> omega)
set_option maxHeartbeats 400000 in
theorem before_q (A : Option Addr) (n c : Nat) (r : List Int) (x y : Int) (w : World) (hr : Ints w A n r) (x0 : 0 ≤ x) (xn : x < n) (y0 : 0 ≤ y) (yn : y < n) :
    Calls Tryz.prog 145 #[.slice A n c, .int .i64 x, .int .i64 y] w fun e w' => e = .returned (.bool (Wl.before r x y)) ∧ ∃ q, w' = w.drewN q := by
  obtain ⟨k, rfl⟩ := Int.eq_ofNat_of_zero_le x0
  obtain ⟨m, rfl⟩ := Int.eq_ofNat_of_zero_le y0
  obtain ⟨b, o, rfl, hl, hc⟩ := hr.at_ (by omega)
  have hx := hc k (by omega)
  have hy := hc m (by omega)
  clear hc hr
  by_cases e : gi r k = gi r m
  · have e' : (gi r k != gi r m) = false := by simp [e]
    have E := Lib.hid e
    clear e
    go_enter Tryz.func145, Tryz.ntmps145
    go_wp2
    go_quiet (fail)
    go_wp2
    go_ret
    exact ⟨ret_bool (by simp [Wl.before, E.out]), ⟨_, rfl⟩⟩
  · have e' : (gi r k != gi r m) = true := by simp [e]
    go_enter Tryz.func145, Tryz.ntmps145
    go_wp2
    go_quiet (fail)
    go_wp2
    go_quiet (fail)
    go_wp2
    go_ret
    exact ⟨ret_bool (by simp [Wl.before, e]), by first | exact ⟨_, rfl⟩ | exact ⟨_, World.drewN_drewN _ _ _⟩⟩
theorem before_any (A : Option Addr) (n c : Nat) (r : List Int) (x y : Int) (w : World) (hr : Ints w A n r) (x0 : 0 ≤ x) (xn : x < n) (y0 : 0 ≤ y) (yn : y < n) :
    Calls Tryz.prog 145 #[.slice A n c, .int .i64 x, .int .i64 y] w fun e w' => e = .returned (.bool (Wl.before r x y)) ∧ Below w.heap.size w w' :=
  (before_q A n c r x y w hr x0 xn y0 yn).mono fun _ _ ⟨he, q, hw⟩ => ⟨he, hw ▸ drewN_below _ _ q⟩
end Go.Proofs.YtmbihjlflcjlnaaGreat
/- Contracts of searches in and comparisons of slices. -/
namespace Go.Proofs.YtmbihjlflcjlnaaGreat
open Go.RowKit Go.Df

set_option maxHeartbeats 400000 in
theorem index_any (A : Option Addr) (n c : Nat) (l : List Int) (x : Int) (w : World) (hr : Ints w A n l) (hn : n ≤ 9223372036854775807) :
    Calls Tryz.prog 137 #[.slice A n c, .int .i64 x] w fun e w' => e = .returned (.int .i64 (Wl.index l x)) ∧ w = w' := by
  rcases Nat.eq_zero_or_pos n with rfl | hp
  · have h0 : l = [] := List.eq_nil_of_length_eq_zero hr.1
    have H := Lib.hid h0
    clear h0 hr
    go_enter Tryz.func137, Tryz.ntmps137
    go_wp2
    refine wp_loop_rounds 1 ?_
    rw [rounds_succ]
    go_wp2
    go_ret
    exact ⟨ret_int (by rw [H.out]; rfl), rfl⟩
  · obtain ⟨b, o, rfl, hl, hc⟩ := hr.at_ hp
    have HL := Lib.hid hr.1
    have HC := Lib.hid hc
    clear hc hr
    go_enter Tryz.func137, Tryz.ntmps137
    go_wp2
    go_loop [8] (fun i => ∃ k : Nat, k ≤ n ∧ i = .int .i64 k ∧ Hid (∀ j, j < k → gi l j ≠ x)) (fun i => n - (intOf i).toNat)
    case atStart => exact ⟨0, Nat.zero_le _, rfl, Lib.hid (fun j hj => absurd hj (by omega))⟩
    case round =>
      obtain ⟨k, hk, rfl, hj⟩ := hrel
      by_cases hlt : k < n
      · have hcell := HC.out k hlt
        go_wp2
        · go_ret
          refine ⟨ret_int (Wl.index_hit hj.out (by rw [HL.out]; exact hlt) ?_).symm, rfl⟩
          simp_all
        · go_round
          case rel =>
            refine ⟨k + 1, by omega, by go_num, Lib.hid (fun j hj1 => ?_)⟩
            rcases Nat.lt_or_ge j k with h2 | h2
            · exact hj.out j h2
            · obtain rfl : j = k := by omega
              intro e
              simp_all
          case measure => simp [intOf]; omega
      · go_wp2
        go_ret
        refine ⟨ret_int (Wl.index_miss (fun j hj1 => hj.out j (by rw [HL.out] at hj1; omega))).symm, rfl⟩

end Go.Proofs.YtmbihjlflcjlnaaGreat
/- Contracts of Contains and Equal. -/
namespace Go.Proofs.YtmbihjlflcjlnaaGreat
open Go.RowKit Go.Df

set_option maxHeartbeats 400000 in
theorem contains_any (A : Option Addr) (n c : Nat) (l : List Int) (x : Int) (w : World) (hr : Ints w A n l) (hn : n ≤ 9223372036854775807) :
    Calls Tryz.prog 90 #[.slice A n c, .int .i64 x] w fun e w' => e = .returned (.bool (decide (x ∈ l))) ∧ w = w' := by
  have H := Lib.hid hr
  clear hr
  go_enter Tryz.func90, Tryz.ntmps90
  go_wp2_with fail
  refine (index_any _ _ _ l _ _ H.out hn).mono ?_
  rintro e w1 ⟨rfl, rfl⟩
  go_wp2_with fail
  go_ret
  exact ⟨ret_bool (by rw [decide_eq_decide]; exact Wl.index_nonneg l x), rfl⟩

end Go.Proofs.YtmbihjlflcjlnaaGreat
/- The contract of slices.Clone at []int. -/
namespace Go.Proofs.YtmbihjlflcjlnaaGreat
open Go.RowKit Go.Df

set_option maxHeartbeats 1000000 in
theorem clone_any (A : Option Addr) (n c : Nat) (l : List Int) (w : World) (hr : Ints w A n l) (hn : n ≤ 1000000) (hA : A = none → n = 0) :
    Calls Tryz.prog 101 #[.slice A n c] w fun e w' => ∃ v, e = .returned v ∧ w'.ownsRow w.heap.size 3 1 v n (l.map (Value.int .i64)) ∧ Below w.heap.size w w' := by
  obtain ⟨i0, hi, hz0, hz1, hz2⟩ := info_parts int_info
  cases A with
  | none =>
    obtain rfl := hA rfl
    have h0 : l = [] := List.eq_nil_of_length_eq_zero hr.1
    subst h0
    clear hr hA
    have hq := fun w => Lib.run_eql_slice_nil (P := Tryz.prog) w 66 3 none 0 c 0 0 Tryz.underlying66
    go_enter Tryz.func101, Tryz.ntmps101
    go_wp2
    go_ret
    exact ⟨_, rfl, ⟨by simp, .inl ⟨rfl, rfl⟩⟩, Below.refl _ _⟩
  | some a =>
    have hq := fun w => Lib.run_eql_slice_nil (P := Tryz.prog) w 66 3 (some a) n c 0 0 Tryz.underlying66
    have HR := Lib.hid hr
    have HL := Lib.hid hr.1
    clear hr hA
    go_enter Tryz.func101, Tryz.ntmps101
    go_wp2_with (at_builtin; refine wpList_append_own _ rfl _ _ 66 rfl w.heap.size 3 i0 (.int .i64 0) 1 8 Tryz.underlying66 hi hz0 hz1 hz2 rfl (by decide) _ 0 [] rfl ?c0 a n c (l.map (Value.int .i64)) rfl ?cl ?c1 ?c2 ?c3 ?c4 ?c5 ?_)
    case c0 =>
      refine ⟨rfl, .inr ⟨w.heap.size, 0, #[], rfl, Nat.le_refl _, heap_alloc_new w _, Nat.le_refl _, Nat.zero_le _, rfl, rfl⟩⟩
    case cl => simp [HL.out]
    case c1 => exact (HR.out.later ((Below.refl _ _).alloc (Nat.le_refl _) _)).news
    case c2 => exact ints_one l
    case c3 => unfold maxLen; omega
    case c4 => omega
    case c5 => simp
    intro v' w1 hown1 hgrow _
    have hB1 : Below w.heap.size w w1 := ((Below.refl _ _).alloc (Nat.le_refl _) _).grown hgrow (by simp) (fun g hg => by simp [Value.ownBlock] at hg; omega)
    clear hgrow
    go_wp2
    go_ret
    exact ⟨_, rfl, hown1, hB1⟩
end Go.Proofs.YtmbihjlflcjlnaaGreat
/- The bit array of Check. -/
namespace Go.Proofs.YtmbihjlflcjlnaaGreat
open Go.RowKit Go.Df
def zs49 : Array Value := (List.replicate 1024 (Value.int .u64 0)).toArray
theorem zero49 (w : World) : (zeroValue 217).run Tryz.prog w = .ok (.agg zs49) w := by kernel_rfl
/-- Block g holds 1024 words. -/
def Wds (w : World) (g : Nat) (f : Nat → Nat) : Prop := g < w.heap.size ∧ (∀ i, i < 1024 → w.cell? ⟨g, i, none⟩ = some (.int .u64 (f i))) ∧ ∀ i, w.frozen? ⟨g, i, none⟩ = false
theorem Wds.new (w : World) : Wds (w.alloc (.cells zs49 217)) w.heap.size (fun _ => 0) := by
  refine ⟨by simp, fun i hi => ?_, fun i => World.frozen?_alloc_new w zs49 217 i⟩
  rw [World.cell?_alloc_new]
  unfold zs49
  rw [List.getElem?_toArray, List.getElem?_replicate, if_pos hi]; rfl
theorem Wds.later {w w1 : World} {g : Nat} {f : Nat → Nat} (h : Wds w g f) (hb : Below w.heap.size w w1) : Wds w1 g f :=
  ⟨Nat.lt_of_lt_of_le h.1 hb.size, fun i hi => (hb.cell (p := ⟨g, i, none⟩) h.1).trans (h.2.1 i hi), fun i => (hb.frozen (p := ⟨g, i, none⟩) h.1).trans (h.2.2 i)⟩
theorem Wds.set {w : World} {g : Nat} {f : Nat → Nat} (h : Wds w g f) (j v : Nat) : Wds (w.setCell ⟨g, j, none⟩ (.int .u64 v)) g (fun i => if i = j then v else f i) := by
  refine ⟨by simpa [World.setCell] using h.1, fun i hi => ?_, fun i => by simpa using h.2.2 i⟩
  dsimp only
  by_cases e : i = j
  · subst e; rw [if_pos rfl]; exact set_same (h.2.1 i hi)
  · rw [if_neg e, set_other (.inr (fun h => e h.symm))]; exact h.2.1 i hi
/-- The end of a round of Check. -/
theorem check_rel {V w1 : World} {g n2 k x nq : Nat} {f : Nat → Nat} {r l : List Int} (hkn : k < n2) (Hl : l.length = n2) (hk1 : Kept [g] V w1) (hw1 : Wds w1 g f) (hbits : Wl.Bits f (l.take k)) (hx : gi l k = (x : Int))
    (herr : ∀ j, j < k → Wl.err r l j = 0) (he : Wl.err r l k = 0) :
    ∃ (k_1 : Nat) (f_1 : Nat → Nat), k_1 ≤ n2 ∧ Value.int .i64 ((k : Int) + 1) = .int .i64 (k_1 : Int) ∧
      Kept [g] V ((w1.drewN nq).setCell ⟨g, x / 64, none⟩ (.int .u64 (bits BinOp.or IntKind.u64 (f (x / 64) : Int) (IntKind.u64.wrap (2 ^ (x % 64)))))) ∧
      Wds ((w1.drewN nq).setCell ⟨g, x / 64, none⟩ (.int .u64 (bits BinOp.or IntKind.u64 (f (x / 64) : Int) (IntKind.u64.wrap (2 ^ (x % 64)))))) g f_1 ∧
      Hid (Wl.Bits f_1 (l.take k_1)) ∧ Hid (∀ j, j < k_1 → Wl.err r l j = 0) := by
  rw [bit_or _ _ (hbits.1 _) (Nat.mod_lt _ (by omega))]
  refine ⟨k + 1, fun i => if i = x / 64 then f (x / 64) ||| 2 ^ (x % 64) else f i, by omega, rfl, (hk1.drewN nq).set g _ _ (.inl (by simp)), (Wds.set (w := w1.drewN nq) hw1 _ _), ?_, ?_⟩
  · have h1 := Wl.bits_set hbits x
    rw [← hx, ← Wl.take_snoc (by omega)] at h1
    have e : (fun i => if i = x / 64 then f (x / 64) ||| 2 ^ (x % 64) else f i) = (fun i => if i = x / 64 then f i ||| 2 ^ (x % 64) else f i) := by
      funext i; split
      · subst_vars; rfl
      · rfl
    rw [e]
    exact h1
  · intro j hj
    rcases Nat.lt_or_ge j k with h2 | h2
    · exact herr j h2
    · obtain rfl : j = k := by omega
      exact he

end Go.Proofs.YtmbihjlflcjlnaaGreat
/- The contract of Check. -/
namespace Go.Proofs.YtmbihjlflcjlnaaGreat
open Go.RowKit Go.Df
attribute [local go_sem ↓] Go.wp_at_zero Go.wp_at_succ

set_option maxHeartbeats 400000 in
theorem check_main (A1 A2 : Option Addr) (n1 c1 n2 c2 : Nat) (r l : List Int) (w : World) (hr : Ints w A1 n1 r) (hl : Ints w A2 n2 l) (s1 : n1 ≤ 8192) (s2 : n2 ≤ 8192) (hp : 0 < n2) :
    Calls Tryz.prog 105 #[.agg #[.slice A1 n1 c1, .slice A2 n2 c2]] w fun e w' => e = .returned (.int .i64 (Wl.chk r l)) ∧ Below w.heap.size w w' := by
  have hz49 := zero49
  have h1 : decide ((8192 : Int) < n1) = false := by simp; omega
  have h2 : decide ((8192 : Int) < n2) = false := by simp; omega
  have HR := Lib.hid hr
  have HL := Lib.hid hl
  have Hr := Lib.hid hr.1
  have Hl := Lib.hid hl.1
  obtain ⟨b, o, rfl, hlt, hc⟩ := hl.at_ hp
  have HC := Lib.hid hc
  clear hr hl hc
  go_enter Tryz.func105, Tryz.ntmps105
  go_upto_region 1 with fail
  refine wp_named (fun W => ∃ b0, w.heap.size = b0 ∧ Blk W b0 [.slice A1 n1 c1, .slice (some ⟨b, o, none⟩) n2 c2] ∧ Below w.heap.size w W) ⟨_, rfl, ?_, ?_⟩ ?_
  · exact Blk.new _ _ _ _ (by first | rfl | simp)
  · go_grown
  rintro W ⟨b0, e0, B0, hB⟩
  rw [e0]
  have G0 : w.heap.size ≤ b0 := by omega
  clear e0
  have ⟨L0, C0, F0⟩ := B0
  go_upto_region 4 with fail
  refine wp_named (fun V => ∃ g, W.heap.size = g ∧ Wds V g (fun _ => 0) ∧ Kept [] W V) ⟨_, rfl, Wds.new W, (Kept.refl _ _).alloc _⟩ ?_
  rintro V ⟨g, eg, hwd, hkV⟩
  rw [eg]
  have Lg : b0 < g := by omega
  have hbg : b ≠ g := by have := hB.size; omega
  have n0g : b0 ≠ g := by omega
  have hBV := hkV.below hB hB.size (by simp)
  have BV := hkV.blk (by simp) B0
  have hlt' : b < V.heap.size := by have := hBV.size; omega
  have hcV : Hid (∀ i, i < n2 → V.cell? ⟨b, o + i, none⟩ = some (.int .i64 (gi l i))) := fun i hi => (hBV.cell (p := ⟨b, o + i, none⟩) hlt).trans (HC.out i hi)
  have hg0 : w.heap.size ≤ g := by have := hB.size; omega
  clear hkV hB B0 C0 F0 L0 G0 eg HC hlt
  have ⟨L0, C0, F0⟩ := BV
  go_wp2_with fail
  go_loopw [19] (fun i wr => ∃ (k : Nat) (f : Nat → Nat), k ≤ n2 ∧ i = .int .i64 k ∧ Kept [g] V wr ∧ Wds wr g f ∧ Hid (Wl.Bits f (l.take k)) ∧ Hid (∀ j, j < k → Wl.err r l j = 0)) (fun i _ => n2 - (intOf i).toNat)
  case atStart => exact ⟨0, _, Nat.zero_le _, rfl, Kept.refl _ _, hwd, Lib.hid Wl.bits_zero, Lib.hid (fun j hj => absurd hj (by omega))⟩
  case round =>
    obtain ⟨k, f, hk, rfl, hkw, hw, hbits, herr⟩ := hrel
    clear hwd
    have ⟨Lw, Cw, Fw⟩ := hkw.blk (by simpa using n0g) BV
    by_cases hkn : k < n2
    · have hcell : wr.cell? ⟨b, o + k, none⟩ = some (.int .i64 (gi l k)) := (hkw.cell b (o + k) hlt' (by simpa using hbg)).trans (hcV.out k hkn)
      by_cases hal : Wl.allowed n1 (gi l k) = false
      · go_wp2_with (go_at_call 144; refine (allowed_any _ _ _ _ _ _ _ _).mono ?_; rintro e w1 ⟨rfl, hb1⟩)
        go_ret
        refine ⟨ret_int ?_, (hkw.call hb1).below hBV hBV.size (by simpa using hg0)⟩
        have he : Wl.err r l k = 4 := by simp [Wl.err, Hr.out, hal]
        exact (Wl.chk_hit (by rw [Hr.out]; exact s1) (by rw [Hl.out]; exact s2) herr.out (by rw [Hl.out]; exact hkn) he (by omega)).symm
      · have hal : Wl.allowed n1 (gi l k) = true := by simpa using hal
        obtain ⟨x0, x1, x2⟩ := Wl.allowed_lt hal s1
        obtain ⟨x, hx⟩ := Int.eq_ofNat_of_zero_le x0
        rw [hx] at hcell hal x1 x2
        have HX := Lib.hid hx
        clear hx x0
        have hq : x / 64 < 1024 := by omega
        have hv := hbits.out.1 (x / 64)
        have hbt := bit_test (f (x / 64)) (x % 64) hv
        by_cases hin : (f (x / 64)).testBit (x % 64) = true
        · rw [hin] at hbt
          go_wp2_with (go_at_call 144; refine (allowed_any _ _ _ _ _ _ _ _).mono ?_; rintro e w1 ⟨rfl, hb1⟩; have hw1 := hw.later hb1; have hcg := hw1.2.1 _ hq)
          go_ret
          refine ⟨ret_int ?_, (hkw.call hb1).below hBV hBV.size (by simpa using hg0)⟩
          have hm := (hbits.out.2 x (by omega)).1 hin
          have he : Wl.err r l k = 7 := by
            unfold Wl.err
            rw [HX.out, Hr.out, hal]
            simp [hm]
          exact (Wl.chk_hit (by rw [Hr.out]; exact s1) (by rw [Hl.out]; exact s2) herr.out (by rw [Hl.out]; exact hkn) he (by omega)).symm
        · rw [Bool.not_eq_true] at hin
          rw [hin] at hbt
          have hni : ¬ (gi l k ∈ l.take k) := by
            rw [HX.out]; intro hm; have := (hbits.out.2 x (by omega)).2 hm; rw [hin] at this; cases this
          have HNI := Lib.hid hni
          clear hni
          by_cases hz : n1 = 0
          · have z1 : decide (0 < n1) = false := by simp; omega
            have z2 : decide ((0 : Int) < (n1 : Int)) = false := by simp; omega
            have he : Hid (Wl.err r l k = 0) := by
              show Wl.err r l k = 0
              unfold Wl.err
              rw [HX.out, Hr.out, hal, ← HX.out]
              simp [HNI.out, hz]
            have HZ := Lib.hid hz
            clear hz
            go_wp2_with (go_at_call 144; refine (allowed_any _ _ _ _ _ _ _ _).mono ?_; rintro e w1 ⟨rfl, hb1⟩; have hw1 := hw.later hb1; have hcg := hw1.2.1 _ hq; have hk1 : Kept [g] V w1 := hkw.call hb1; have ⟨Lw1, Cw1, Fw1⟩ := hk1.blk (by simpa using n0g) BV; have hfg := hw1.2.2 (x / 64))
            go_quiet (fail)
            go_wp2_with fail
            exact ⟨check_rel hkn Hl.out hk1 hw1 hbits.out HX.out herr.out he.out, by simp [intOf]; omega⟩
          · have z1 : decide (0 < n1) = true := by simp; omega
            have z2 : decide ((0 : Int) < (n1 : Int)) = true := by simp; omega
            have z3 : 0 < n1 := by omega
            by_cases hk0 : k = 0
            · have he : Hid (Wl.err r l k = 0) := by
                show Wl.err r l k = 0
                unfold Wl.err
                rw [HX.out, Hr.out, hal, ← HX.out]
                simp [hk0]
              have y1 : decide (0 < k) = false := by simp; omega
              have y2 : decide ((0 : Int) < (k : Int)) = false := by simp; omega
              have HK0 := Lib.hid hk0
              clear hk0
              go_wp2_with (go_at_call 144; refine (allowed_any _ _ _ _ _ _ _ _).mono ?_; rintro e w1 ⟨rfl, hb1⟩; have hw1 := hw.later hb1; have hcg := hw1.2.1 _ hq; have hk1 : Kept [g] V w1 := hkw.call hb1; have ⟨Lw1, Cw1, Fw1⟩ := hk1.blk (by simpa using n0g) BV; have hfg := hw1.2.2 (x / 64))
              go_quiet (fail)
              go_wp2_with fail
              exact ⟨check_rel hkn Hl.out hk1 hw1 hbits.out HX.out herr.out he.out, by simp [intOf]; omega⟩
            · have y1 : decide (0 < k) = true := by simp; omega
              have y2 : decide ((0 : Int) < (k : Int)) = true := by simp; omega
              have y3 : 0 < k := by omega
              have hprev := herr.out (k - 1) (by omega)
              have hal2 : Wl.allowed n1 (gi l (k - 1)) = true := by
                unfold Wl.err at hprev
                rw [Hr.out] at hprev
                by_cases h5 : Wl.allowed n1 (gi l (k - 1)) = false
                · rw [if_pos h5] at hprev; cases hprev
                · simpa using h5
              obtain ⟨p0, p1, p2⟩ := Wl.allowed_lt hal2 s1
              obtain ⟨y, hy⟩ := Int.eq_ofNat_of_zero_le p0
              have HY := Lib.hid hy
              rw [hy] at p2
              have p3 := p2 z3
              have x3 := x2 z3
              have hcellp : ∀ wx, Kept [g] V wx → wx.cell? ⟨b, o + (k - 1), none⟩ = some (.int .i64 (y : Int)) := fun wx hh => by
                rw [← HY.out]; exact (hh.cell b (o + (k - 1)) hlt' (by simpa using hbg)).trans (hcV.out (k - 1) (by omega))
              have HP := Lib.hid hcellp
              clear hcellp hprev hal2 p0 p1 p2 hy x2 hk0 hz
              by_cases hbf : Wl.before r (x : Int) (y : Int) = true
              · go_wp2_with (go_at_call 144; refine (allowed_any _ _ _ _ _ _ _ _).mono ?_; rintro e w1 ⟨rfl, hb1⟩; have hw1 := hw.later hb1; have hcg := hw1.2.1 _ hq; have hk1 : Kept [g] V w1 := hkw.call hb1; have ⟨Lw1, Cw1, Fw1⟩ := hk1.blk (by simpa using n0g) BV; have hfg := hw1.2.2 (x / 64); have hcp := HP.out _ hk1; have hrq : Hid (Ints w1 A1 n1 r) := Lib.hid (HR.out.later (hk1.below hBV hBV.size (by simpa using hg0))))
                go_quiet ((go_at_call 145; exact Calls.quiet_of (before_q _ _ _ r _ _ _ (show Ints (World.drewN w1 _) A1 n1 r from hrq.out) (by omega) (by omega) (by omega) (by omega))))
                go_wp2_with fail
                go_ret
                refine ⟨ret_int ?_, (hk1.drewN _).below hBV hBV.size (by simpa using hg0)⟩
                have he : Wl.err r l k = 13 := by
                  unfold Wl.err
                  rw [HX.out, Hr.out, hal, ← HX.out]
                  simp [HNI.out]
                  rw [HX.out, HY.out]
                  exact ⟨z3, y3, hbf⟩
                exact (Wl.chk_hit (by rw [Hr.out]; exact s1) (by rw [Hl.out]; exact s2) herr.out (by rw [Hl.out]; exact hkn) he (by omega)).symm
              · rw [Bool.not_eq_true] at hbf
                have he : Hid (Wl.err r l k = 0) := by
                  show Wl.err r l k = 0
                  unfold Wl.err
                  rw [HX.out, Hr.out, hal, ← HX.out]
                  simp [HNI.out]
                  rw [HX.out, HY.out]
                  intro _ _
                  exact hbf
                go_wp2_with (go_at_call 144; refine (allowed_any _ _ _ _ _ _ _ _).mono ?_; rintro e w1 ⟨rfl, hb1⟩; have hw1 := hw.later hb1; have hcg := hw1.2.1 _ hq; have hk1 : Kept [g] V w1 := hkw.call hb1; have ⟨Lw1, Cw1, Fw1⟩ := hk1.blk (by simpa using n0g) BV; have hfg := hw1.2.2 (x / 64); have hcp := HP.out _ hk1; have hrq : Hid (Ints w1 A1 n1 r) := Lib.hid (HR.out.later (hk1.below hBV hBV.size (by simpa using hg0))))
                go_quiet ((go_at_call 145; exact Calls.quiet_of (before_q _ _ _ r _ _ _ (show Ints (World.drewN w1 _) A1 n1 r from hrq.out) (by omega) (by omega) (by omega) (by omega))))
                go_wp2_with fail
                exact ⟨check_rel hkn Hl.out hk1 hw1 hbits.out HX.out herr.out he.out, by simp [intOf]; omega⟩
    · go_wp2
      go_ret
      refine ⟨ret_int ?_, hkw.below hBV hBV.size (by simpa using hg0)⟩
      exact (Wl.chk_ok (by rw [Hr.out]; exact s1) (by rw [Hl.out]; exact s2) (fun j hj => herr.out j (by rw [Hl.out] at hj; omega))).symm
end Go.Proofs.YtmbihjlflcjlnaaGreat
/- The contract of Check at every worklist, and of Len, Has. -/
namespace Go.Proofs.YtmbihjlflcjlnaaGreat
open Go.RowKit Go.Df
attribute [local go_sem ↓] Go.wp_at_zero Go.wp_at_succ

set_option maxHeartbeats 400000 in
theorem wlck_any (A1 A2 : Option Addr) (n1 c1 n2 c2 : Nat) (r l : List Int) (w : World) (hr : Ints w A1 n1 r) (hl : Ints w A2 n2 l) :
    Calls Tryz.prog 105 #[.agg #[.slice A1 n1 c1, .slice A2 n2 c2]] w fun e w' => e = .returned (.int .i64 (Wl.chk r l)) ∧ Below w.heap.size w w' := by
  by_cases t1 : 8192 < n1
  · have e1 : Hid (Wl.chk r l = 3) := by
      show Wl.chk r l = 3
      rw [Wl.chk, if_pos (by have := hr.1; omega)]
    have h1 : decide ((8192 : Int) < n1) = true := by simp; omega
    clear hr hl
    go_enter Tryz.func105, Tryz.ntmps105
    go_wp2
    go_ret
    exact ⟨ret_int e1.out.symm, by go_grown⟩
  · by_cases t2 : 8192 < n2
    · have e1 : Hid (Wl.chk r l = 3) := by
        show Wl.chk r l = 3
        rw [Wl.chk, if_pos (by have := hl.1; omega)]
      have h1 : decide ((8192 : Int) < n1) = false := by simp; omega
      have h2 : decide ((8192 : Int) < n2) = true := by simp; omega
      clear hr hl
      go_enter Tryz.func105, Tryz.ntmps105
      go_wp2
      go_ret
      exact ⟨ret_int e1.out.symm, by go_grown⟩
    · rcases Nat.eq_zero_or_pos n2 with rfl | hp
      · have hz49 := zero49
        have e1 : Hid (Wl.chk r l = 0) := by
          show Wl.chk r l = 0
          have : l = [] := List.eq_nil_of_length_eq_zero hl.1
          subst this
          rw [Wl.chk, if_neg (by have := hr.1; simp; omega)]; rfl
        have h1 : decide ((8192 : Int) < n1) = false := by simp; omega
        clear hr hl
        go_enter Tryz.func105, Tryz.ntmps105
        go_wp2
        refine wp_loop_rounds 1 ?_
        rw [rounds_succ]
        go_wp2
        go_ret
        exact ⟨ret_int e1.out.symm, by go_grown⟩
      · exact check_main A1 A2 n1 c1 n2 c2 r l w hr hl (by omega) (by omega) hp
end Go.Proofs.YtmbihjlflcjlnaaGreat
/- Contracts of New. -/
namespace Go.Proofs.YtmbihjlflcjlnaaGreat
open Go.RowKit Go.Df
attribute [local go_sem ↓] Go.wp_at_zero Go.wp_at_succ
/-- A worklist and an error come back. -/
def GetQE (w : World) (r l : List Int) (x : Int) (e : Ending) (w' : World) : Prop :=
  ∃ A1 n1 c1 A2 n2 c2, e = .returned (.tuple #[.agg #[.slice A1 n1 c1, .slice A2 n2 c2], .int .i64 x]) ∧ SIn w' A1 n1 c1 r ∧ SIn w' A2 n2 c2 l ∧ Below w.heap.size w w' ∧ Fr w w' A1 ∧ Fr w w' A2

set_option maxHeartbeats 400000 in
theorem new_ok (A : Option Addr) (n c : Nat) (r : List Int) (w : World) (hr : Ints w A n r) (hn : n ≤ 8192) (hA : A = none → n = 0) :
    Calls Tryz.prog 56 #[.slice A n c] w (GetQE w r [] 0) := by
  have h1 : decide ((8192 : Int) < n) = false := by simp; omega
  have HR := Lib.hid hr
  have HA := Lib.hid hA
  clear hr hA
  go_enter Tryz.func56, Tryz.ntmps56
  go_upto_region 1 with fail
  refine wp_named (fun W => ∃ b0, w.heap.size = b0 ∧ Blk W b0 [.slice none 0 0, .slice none 0 0] ∧ Below w.heap.size w W) ⟨_, rfl, ?_, ?_⟩ ?_
  · exact Blk.new _ _ _ _ (by first | rfl | simp)
  · go_grown
  rintro W ⟨b0, e0, B0, hB⟩
  rw [e0]
  have G0 : w.heap.size ≤ b0 := by omega
  clear e0
  have ⟨L0, C0, F0⟩ := B0
  go_wp2_with fail
  refine (clone_any _ _ _ r _ (HR.out.later hB) (by omega) HA.out).mono ?_
  rintro e w1 ⟨v, rfl, hown, hb1⟩
  obtain ⟨A', c', hv, hi, hge⟩ := SIn.of_own hown
  have hk1 : Kept [] W w1 := Kept.call (Kept.refl _ _) hb1
  have ⟨hc1, hf1, hg1⟩ := hk1.rules
  have ⟨L1, C1, F1⟩ := hk1.blk (by simp) B0
  clear hown
  subst hv
  go_wp2_with fail
  refine bodyPost_ret (by simp [results, Tryz.results56, go_sem, *]; rfl) rfl ?_
  have hkf := ((Kept.refl [b0] w1).set b0 0 (.slice A' n c') (.inl (by simp))).set b0 1 (.slice none 0 0) (.inl (by simp))
  refine ⟨_, _, _, _, _, _, rfl, hi.keptX hkf (fun _ a ha => ?_), SIn.nil _, ?_, fun a ha => ?_, Fr.none _ _⟩
  · have := hge a ha
    simp; omega
  · exact hkf.below (hk1.below hB hB.size (by simp)) (Nat.le_trans hB.size hk1.size) (by simpa using G0)
  · have t1 := hge a ha; have t2 := hB.size; have t3 := hkf.size; omega

set_option maxHeartbeats 400000 in
theorem new_long (A : Option Addr) (n c : Nat) (w : World) (hn : 8192 < n) :
    Calls Tryz.prog 56 #[.slice A n c] w (GetQE w [] [] 3) := by
  have h1 : decide ((8192 : Int) < n) = true := by simp; omega
  go_enter Tryz.func56, Tryz.ntmps56
  go_wp2
  go_returns
  exact ⟨_, _, _, _, _, _, rfl, SIn.nil _, SIn.nil _, by go_grown, Fr.none _ _, Fr.none _ _⟩
end Go.Proofs.YtmbihjlflcjlnaaGreat
/- Contracts of Pop. -/
namespace Go.Proofs.YtmbihjlflcjlnaaGreat
open Go.RowKit Go.Df
attribute [local go_sem ↓] Go.wp_at_zero Go.wp_at_succ
/-- An item, a worklist and a bool come back. -/
def GetPop (w : World) (x : Int) (r l : List Int) (ok : Bool) (e : Ending) (w' : World) : Prop :=
  ∃ A1 n1 c1 A2 n2 c2, e = .returned (.tuple #[.int .i64 x, .agg #[.slice A1 n1 c1, .slice A2 n2 c2], .bool ok]) ∧ SIn w' A1 n1 c1 r ∧ SIn w' A2 n2 c2 l ∧ Below w.heap.size w w' ∧ Fr w w' A1 ∧ Fr w w' A2

set_option maxHeartbeats 400000 in
theorem pop_no (A1 A2 : Option Addr) (n1 c1 n2 c2 : Nat) (r l : List Int) (w : World) (hr : Ints w A1 n1 r) (hl : Ints w A2 n2 l) (h : Wl.chk r l ≠ 0 ∨ n2 = 0) :
    Calls Tryz.prog 58 #[.agg #[.slice A1 n1 c1, .slice A2 n2 c2]] w (GetPop w 0 [] [] false) := by
  have HR := Lib.hid hr
  have HL := Lib.hid hl
  clear hr hl
  go_enter Tryz.func58, Tryz.ntmps58
  go_upto_region 1 with fail
  refine wp_named (fun W => ∃ b0 b1, w.heap.size = b0 ∧ w.heap.size + 1 = b1 ∧ Blk W b0 [.slice A1 n1 c1, .slice A2 n2 c2] ∧ Blk W b1 [.slice none 0 0, .slice none 0 0] ∧ Below w.heap.size w W) ⟨_, _, rfl, rfl, ?_, ?_, ?_⟩ ?_
  · exact (Blk.new _ _ _ _ (by first | rfl | simp)).alloc _
  · exact Blk.new _ _ _ _ (by first | rfl | simp)
  · go_grown
  rintro W ⟨b0, b1, e0, e1, B0, B1, hB⟩
  rw [e1, e0]
  have G0 : w.heap.size ≤ b0 := by omega
  have n01 : b0 ≠ b1 := by omega
  have G1 : w.heap.size ≤ b1 := by omega
  have n10 : b1 ≠ b0 := by omega
  clear e0 e1
  have ⟨L0, C0, F0⟩ := B0
  have ⟨L1, C1, F1⟩ := B1
  go_wp2_with fail
  refine (wlck_any _ _ _ _ _ _ r l _ (HR.out.later hB) (HL.out.later hB)).mono ?_
  rintro e w1 ⟨rfl, hb1⟩
  have hk1 : Kept [] W w1 := Kept.call (Kept.refl _ _) hb1
  have ⟨hc1, hf1, hg1⟩ := hk1.rules
  by_cases hz : Wl.chk r l = 0
  · obtain rfl : n2 = 0 := h.resolve_left (fun h => h hz)
    rw [hz]
    clear hz h
    go_wp2_with fail
    refine bodyPost_ret (by simp [results, Tryz.results58, go_sem, *]; rfl) rfl ?_
    have hkf := ((Kept.refl [b1] w1).set b1 0 (.slice none 0 0) (.inl (by simp))).set b1 1 (.slice none 0 0) (.inl (by simp))
    refine ⟨_, _, _, _, _, _, rfl, SIn.nil _, SIn.nil _, ?_, Fr.none _ _, Fr.none _ _⟩
    exact hkf.below (hk1.below hB hB.size (by simp)) (Nat.le_trans hB.size hk1.size) (by simpa using G1)
  · have hz' : (Wl.chk r l != 0) = true := by simpa using hz
    clear h
    go_wp2_with fail
    refine bodyPost_ret (by simp [results, Tryz.results58, go_sem, *]; rfl) rfl ?_
    have hkf := ((Kept.refl [b1] w1).set b1 0 (.slice none 0 0) (.inl (by simp))).set b1 1 (.slice none 0 0) (.inl (by simp))
    refine ⟨_, _, _, _, _, _, rfl, SIn.nil _, SIn.nil _, ?_, Fr.none _ _, Fr.none _ _⟩
    exact hkf.below (hk1.below hB hB.size (by simp)) (Nat.le_trans hB.size hk1.size) (by simpa using G1)
end Go.Proofs.YtmbihjlflcjlnaaGreat
/- The contract of Pop at a worklist that is not empty. -/
namespace Go.Proofs.YtmbihjlflcjlnaaGreat
open Go.RowKit Go.Df
attribute [local go_sem ↓] Go.wp_at_zero Go.wp_at_succ

set_option maxHeartbeats 400000 in
theorem pop_two (A1 A2 : Option Addr) (n1 c1 n2 c2 : Nat) (r l : List Int) (w : World) (hr : Ints w A1 n1 r) (hl : Ints w A2 n2 l) (h : Wl.chk r l = 0) (hp : 2 ≤ n2) (hcap : n2 ≤ c2) (hA : A1 = none → n1 = 0) :
    Calls Tryz.prog 58 #[.agg #[.slice A1 n1 c1, .slice A2 n2 c2]] w (GetPop w (gi l 0) r (l.drop 1) true) := by
  have hsz : n1 ≤ 8192 ∧ n2 ≤ 8192 := by
    have h1 := hl.1
    have h2 := hr.1
    rw [Wl.chk] at h
    split at h
    · omega
    · omega
  obtain ⟨s1, s2⟩ := hsz
  have HR := Lib.hid hr
  have HL := Lib.hid hl
  have Hl := Lib.hid hl.1
  have HA := Lib.hid hA
  have HZ := Lib.hid h
  obtain ⟨b, o, rfl, hlt, hc⟩ := hl.at_ (by omega)
  have HC := Lib.hid hc
  clear hr hl hA h hc
  go_enter Tryz.func58, Tryz.ntmps58
  go_upto_region 1 with fail
  refine wp_named (fun W => ∃ b0 b1, w.heap.size = b0 ∧ w.heap.size + 1 = b1 ∧ Blk W b0 [.slice A1 n1 c1, .slice (some ⟨b, o, none⟩) n2 c2] ∧ Blk W b1 [.slice none 0 0, .slice none 0 0] ∧ Below w.heap.size w W) ⟨_, _, rfl, rfl, ?_, ?_, ?_⟩ ?_
  · exact (Blk.new _ _ _ _ (by first | rfl | simp)).alloc _
  · exact Blk.new _ _ _ _ (by first | rfl | simp)
  · go_grown
  rintro W ⟨b0, b1, e0, e1, B0, B1, hB⟩
  rw [e1, e0]
  have G0 : w.heap.size ≤ b0 := by omega
  have n01 : b0 ≠ b1 := by omega
  have G1 : w.heap.size ≤ b1 := by omega
  have n10 : b1 ≠ b0 := by omega
  clear e0 e1
  have ⟨L0, C0, F0⟩ := B0
  have ⟨L1, C1, F1⟩ := B1
  go_wp2_with fail
  refine (wlck_any _ _ _ _ _ _ r l _ (HR.out.later hB) (HL.out.later hB)).mono ?_
  rintro e w1 ⟨rfl, hb1⟩
  rw [HZ.out]
  have hk1 : Kept [] W w1 := Kept.call (Kept.refl _ _) hb1
  have ⟨hc1, hf1, hg1⟩ := hk1.rules
  have z1 : ((n2 : Int) == 0) = false := by simp; omega
  go_wp2_with fail
  refine (clone_any _ _ _ r _ ((HR.out.later hB).kept hk1) (by omega) HA.out).mono ?_
  rintro e w2 ⟨v1, rfl, hown1, hb2⟩
  obtain ⟨A1', c1', hv1, hi1, hge1⟩ := SIn.of_own hown1
  have hk2 : Kept [] W w2 := Kept.call hk1 hb2
  have hlt2 : b < W.heap.size := by have := hB.size; omega
  have HC2 : Hid (∀ i, i < n2 - 1 → w2.cell? ⟨b, o + 1 + i, none⟩ = some (.int .i64 (gi (l.drop 1) i))) := fun i hi => by
    rw [hk2.cell b _ hlt2 (by simp), hB.cell (p := ⟨b, o + 1 + i, none⟩) hlt, show o + 1 + i = o + (1 + i) by omega, HC.out (1 + i) (by omega)]
    rw [gi_lt (by rw [Hl.out]; omega), gi_lt (by rw [List.length_drop, Hl.out]; omega), List.getElem_drop]
  have HI2 : Hid (Ints w2 (some ⟨b, o + 1, none⟩) (n2 - 1) (l.drop 1)) := ⟨by rw [List.length_drop, Hl.out], fun _ => ⟨b, o + 1, rfl, Nat.lt_of_lt_of_le hlt2 hk2.size, HC2.out⟩⟩
  clear hown1
  subst hv1
  go_wp2_with fail
  refine (clone_any _ _ _ (l.drop 1) _ HI2.out (by omega) (fun h => by cases h)).mono ?_
  rintro e w3 ⟨v2, rfl, hown2, hb3⟩
  obtain ⟨A2', c2', hv2, hi2, hge2⟩ := SIn.of_own hown2
  have hk3 : Kept [] W w3 := Kept.call hk2 hb3
  have ⟨L0', C0', F0'⟩ := hk3.blk (by simp) B0
  have ⟨L1', C1', F1'⟩ := hk3.blk (by simp) B1
  have hi1' := hi1.later hb3
  clear hown2
  subst hv2
  go_wp2_with fail
  have hB1 := hk3.blk (by simp) B1
  refine wp_named (fun V => Kept [b1] w3 V ∧ Blk V b1 [.slice A1' n1 c1', .slice A2' (n2 - 1) c2']) ⟨((Kept.refl [b1] w3).set b1 0 _ (.inl (by simp))).set b1 1 _ (.inl (by simp)), (Blk.set2 (hB1.n rfl))⟩ ?_
  rintro V ⟨hkV, BV1⟩
  have BV0 := hkV.blk (by simpa using n01) (hk3.blk (by simp) B0)
  have ⟨L0v, C0v, F0v⟩ := BV0
  have ⟨L1v, C1v, F1v⟩ := BV1
  have hcv : V.cell? ⟨b, o, none⟩ = some (.int .i64 (gi l 0)) := by
    rw [hkV.cell b o (Nat.lt_of_lt_of_le hlt2 hk3.size) (by simp; omega), hk3.cell b o hlt2 (by simp), hB.cell (p := ⟨b, o, none⟩) hlt]
    exact HC.out 0 (by omega)
  clear hc1 hf1 hg1 C0 F0 C1 F1 C0' F0' C1' F1'
  go_region
  refine then_named (fun Wf => Kept [b1] w3 Wf ∧ Blk Wf b1 [.slice A1' n1 c1', .slice A2' (n2 - 1) c2']) ⟨?_, ?_⟩ ?_
  · repeat' first | exact hkV | (with_reducible refine Kept.drew ?_) | (with_reducible refine Kept.set ?_ _ _ _ (Or.inl ?_)) | (simp; done)
  · first | exact Blk.set2 (BV1.n rfl) | exact Blk.drew (Blk.set2 (BV1.n rfl))
  rintro Wf ⟨hkf, ⟨L1f, C1f, F1f⟩⟩
  go_wp2_with fail
  refine bodyPost_ret (by simp [results, Tryz.results58, go_sem, C1f]; rfl) rfl ?_
  refine ⟨_, _, _, _, _, _, rfl, hi1'.keptX hkf (fun _ a ha => ?_), hi2.keptX hkf (fun _ a ha => ?_), ?_, fun a ha => ?_, fun a ha => ?_⟩
  · have := hge1 a ha
    have := hk1.size
    simp; omega
  · have := hge2 a ha
    have := hk2.size
    simp; omega
  · exact hkf.below (hk3.below hB hB.size (by simp)) (Nat.le_trans hB.size hk3.size) (by simpa using G1)
  · have t1 := hge1 a ha; have t2 := hB.size; have t3 := hkf.size; have t4 := hk1.size; have t5 := hb3.size; omega
  · have t1 := hge2 a ha; have t2 := hB.size; have t3 := hkf.size; have t4 := hk2.size; omega
end Go.Proofs.YtmbihjlflcjlnaaGreat
/- The contract of Pop at a worklist of one item. -/
namespace Go.Proofs.YtmbihjlflcjlnaaGreat
open Go.RowKit Go.Df
attribute [local go_sem ↓] Go.wp_at_zero Go.wp_at_succ

set_option maxHeartbeats 400000 in
theorem pop_one (A1 A2 : Option Addr) (n1 c1 c2 : Nat) (r l : List Int) (w : World) (hr : Ints w A1 n1 r) (hl : Ints w A2 1 l) (h : Wl.chk r l = 0) (hcap : 1 ≤ c2) (hA : A1 = none → n1 = 0) :
    Calls Tryz.prog 58 #[.agg #[.slice A1 n1 c1, .slice A2 1 c2]] w (GetPop w (gi l 0) r (l.drop 1) true) := by
  have hsz : n1 ≤ 8192 ∧ 1 ≤ 8192 := by
    have h1 := hl.1
    have h2 := hr.1
    rw [Wl.chk] at h
    split at h
    · omega
    · omega
  obtain ⟨s1, _⟩ := hsz
  have HR := Lib.hid hr
  have HL := Lib.hid hl
  have Hl := Lib.hid hl.1
  have HA := Lib.hid hA
  have HZ := Lib.hid h
  obtain ⟨b, o, rfl, hlt, hc⟩ := hl.at_ (by omega)
  have HC := Lib.hid hc
  clear hr hl hA h hc
  go_enter Tryz.func58, Tryz.ntmps58
  go_upto_region 1 with fail
  refine wp_named (fun W => ∃ b0 b1, w.heap.size = b0 ∧ w.heap.size + 1 = b1 ∧ Blk W b0 [.slice A1 n1 c1, .slice (some ⟨b, o, none⟩) 1 c2] ∧ Blk W b1 [.slice none 0 0, .slice none 0 0] ∧ Below w.heap.size w W) ⟨_, _, rfl, rfl, ?_, ?_, ?_⟩ ?_
  · exact (Blk.new _ _ _ _ (by first | rfl | simp)).alloc _
  · exact Blk.new _ _ _ _ (by first | rfl | simp)
  · go_grown
  rintro W ⟨b0, b1, e0, e1, B0, B1, hB⟩
  rw [e1, e0]
  have G0 : w.heap.size ≤ b0 := by omega
  have n01 : b0 ≠ b1 := by omega
  have G1 : w.heap.size ≤ b1 := by omega
  have n10 : b1 ≠ b0 := by omega
  clear e0 e1
  have ⟨L0, C0, F0⟩ := B0
  have ⟨L1, C1, F1⟩ := B1
  go_wp2_with fail
  refine (wlck_any _ _ _ _ _ _ r l _ (HR.out.later hB) (HL.out.later hB)).mono ?_
  rintro e w1 ⟨rfl, hb1⟩
  rw [HZ.out]
  have hk1 : Kept [] W w1 := Kept.call (Kept.refl _ _) hb1
  have ⟨hc1, hf1, hg1⟩ := hk1.rules
  go_wp2_with fail
  refine (clone_any _ _ _ r _ ((HR.out.later hB).kept hk1) (by omega) HA.out).mono ?_
  rintro e w2 ⟨v1, rfl, hown1, hb2⟩
  obtain ⟨A1', c1', hv1, hi1, hge1⟩ := SIn.of_own hown1
  have hk2 : Kept [] W w2 := Kept.call hk1 hb2
  have hlt2 : b < W.heap.size := by have := hB.size; omega
  have HD : Hid (l.drop 1 = []) := List.eq_nil_of_length_eq_zero (by rw [List.length_drop, Hl.out])
  clear hown1
  subst hv1
  go_wp2_with fail
  refine (clone_any _ _ _ [] _ (Ints.empty _ _) (by omega) (fun _ => rfl)).mono ?_
  rintro e w3 ⟨v2, rfl, hown2, hb3⟩
  obtain ⟨A2', c2', hv2, hi2, hge2⟩ := SIn.of_own hown2
  have hk3 : Kept [] W w3 := Kept.call hk2 hb3
  have ⟨L0', C0', F0'⟩ := hk3.blk (by simp) B0
  have ⟨L1', C1', F1'⟩ := hk3.blk (by simp) B1
  have hi1' := hi1.later hb3
  clear hown2
  subst hv2
  go_wp2_with fail
  have hB1 := hk3.blk (by simp) B1
  refine wp_named (fun V => Kept [b1] w3 V ∧ Blk V b1 [.slice A1' n1 c1', .slice A2' 0 c2']) ⟨((Kept.refl [b1] w3).set b1 0 _ (.inl (by simp))).set b1 1 _ (.inl (by simp)), (Blk.set2 (hB1.n rfl))⟩ ?_
  rintro V ⟨hkV, BV1⟩
  have BV0 := hkV.blk (by simpa using n01) (hk3.blk (by simp) B0)
  have ⟨L0v, C0v, F0v⟩ := BV0
  have ⟨L1v, C1v, F1v⟩ := BV1
  have hcv : V.cell? ⟨b, o, none⟩ = some (.int .i64 (gi l 0)) := by
    rw [hkV.cell b o (Nat.lt_of_lt_of_le hlt2 hk3.size) (by simp; omega), hk3.cell b o hlt2 (by simp), hB.cell (p := ⟨b, o, none⟩) hlt]
    exact HC.out 0 (by omega)
  clear hc1 hf1 hg1 C0 F0 C1 F1 C0' F0' C1' F1'
  go_region
  refine then_named (fun Wf => Kept [b1] w3 Wf ∧ Blk Wf b1 [.slice A1' n1 c1', .slice A2' 0 c2']) ⟨?_, ?_⟩ ?_
  · repeat' first | exact hkV | (with_reducible refine Kept.drew ?_) | (with_reducible refine Kept.set ?_ _ _ _ (Or.inl ?_)) | (simp; done)
  · first | exact Blk.set2 (BV1.n rfl) | exact Blk.drew (Blk.set2 (BV1.n rfl))
  rintro Wf ⟨hkf, ⟨L1f, C1f, F1f⟩⟩
  go_wp2_with fail
  refine bodyPost_ret (by simp [results, Tryz.results58, go_sem, C1f]; rfl) rfl ?_
  rw [HD.out]
  refine ⟨_, _, _, _, _, _, rfl, hi1'.keptX hkf (fun _ a ha => ?_), hi2.keptX hkf (fun _ a ha => ?_), ?_, fun a ha => ?_, fun a ha => ?_⟩
  · have := hge1 a ha
    have := hk1.size
    simp; omega
  · have := hge2 a ha
    have := hk2.size
    simp; omega
  · exact hkf.below (hk3.below hB hB.size (by simp)) (Nat.le_trans hB.size hk3.size) (by simpa using G1)
  · have t1 := hge1 a ha; have t2 := hB.size; have t3 := hkf.size; have t4 := hk1.size; have t5 := hb3.size; omega
  · have t1 := hge2 a ha; have t2 := hB.size; have t3 := hkf.size; have t4 := hk2.size; omega
end Go.Proofs.YtmbihjlflcjlnaaGreat
/- The contract of slices.Insert at []int, of one number, into a slice of the caller's own. -/
namespace Go.Proofs.YtmbihjlflcjlnaaGreat
open Go.RowKit Go.Df Go.Shelf
def insRen : Ren := ⟨fun | 21 => 146 | 27 => 163 | 28 => 164 | 35 => 182 | 39 => 188 | n => n, fun | 22 => 66 | n => n, fun x => x⟩
theorem insLays : Lays2.n21 Tryz.prog insRen where
  mixed := by kernel_rfl
  f21 := by kernel_rfl
  f27 := by kernel_rfl
  f28 := by kernel_rfl
  f35 := by kernel_rfl
  f39 := by kernel_rfl
  t0 := by kernel_rfl
  a0 := fun _ => by kernel_rfl
  z0 := fun _ => by kernel_rfl
  v0 := fun _ => by kernel_rfl
  t3 := by kernel_rfl
  a3 := fun _ => by kernel_rfl
  z3 := fun _ => by kernel_rfl
  v3 := fun _ => by kernel_rfl
  t4 := by kernel_rfl
  a4 := fun _ => by kernel_rfl
  z4 := fun _ => by kernel_rfl
  v4 := fun _ => by kernel_rfl
  t22 := by kernel_rfl
  a22 := fun _ => by kernel_rfl
  z22 := fun _ => by kernel_rfl
  v22 := fun _ => by kernel_rfl
  i3 := by kernel_rfl
/-- A list with x at place i. -/
def Wl.ins (l : List Int) (i : Nat) (x : Int) : List Int := l.take i ++ x :: l.drop i
theorem Wl.ins_len {l : List Int} {i : Nat} (x : Int) (h : i ≤ l.length) : (Wl.ins l i x).length = l.length + 1 := by
  simp [Wl.ins]; omega
theorem Wl.gi_ins {l : List Int} {i : Nat} (x : Int) (h : i ≤ l.length) (j : Nat) : gi (Wl.ins l i x) j = if j < i then gi l j else if j = i then x else gi l (j - 1) := by
  have hl : (l.take i).length = i := by simp; omega
  simp only [gi, List.getD_eq_getElem?_getD]
  unfold Wl.ins
  by_cases h1 : j < i
  · rw [if_pos h1, List.getElem?_append_left (by omega), List.getElem?_take_of_lt h1]
  · rw [if_neg h1, List.getElem?_append_right (by omega), hl]
    by_cases h2 : j = i
    · subst h2; simp
    · rw [if_neg h2]
      obtain ⟨d, hd⟩ : ∃ d, j - i = d + 1 := ⟨j - i - 1, by omega⟩
      rw [hd, List.getElem?_cons_succ, List.getElem?_drop, show i + d = j - 1 by omega]
/-- The slice of a call's own with one number more. -/
def GetIns (w : World) (base : Nat) (v : Value) (xs : List Int) (e : Ending) (w' : World) : Prop :=
  ∃ A n c, e = .returned (.slice A n c) ∧ SIn w' A n c xs ∧ (∀ a, A = some a → base ≤ a.block ∧ (v.ownBlock = some a.block ∨ w.heap.size ≤ a.block)) ∧ Kept v.ownBlock.toList w w'
theorem one_at {w : World} {vb : Nat} {x : Int} (h : w.heap[vb]? = some (.cells #[.int .i64 x] 3 (0, 0))) : ∀ j v, [Value.int .i64 x][j]? = some v → w.cell? ⟨vb, 0 + j, none⟩ = some v := by
  intro j v hv
  simp only [World.cell?, h]
  cases j with
  | zero => simpa using hv
  | succ j => simp at hv
theorem own_cells {cur : Array Value} {n : Nat} {l : List Int} (ht : cur.toList.take n = l.map (Value.int .i64)) (hl : l.length = n) {w : World} {g : Nat} {t : TypeId} {fr : Nat × Nat} (hh : w.heap[g]? = some (.cells cur t fr)) :
    ∀ j v, (l.map (Value.int .i64))[j]? = some v → w.cell? ⟨g, 0 + j, none⟩ = some v := by
  intro j v hv
  have hj : j < n := by
    rcases Nat.lt_or_ge j n with h | h
    · exact h
    · rw [List.getElem?_eq_none (by simp; omega)] at hv; cases hv
  rw [← ht, List.getElem?_take_of_lt hj] at hv
  simp only [World.cell?, hh, Nat.zero_add]
  simpa using hv
/-- Cells that hold a list with x at place i. -/
theorem ins_ints {w' : World} {b n i : Nat} {l : List Int} {x : Int} (hl : l.length = n) (hi : i ≤ n) (hb : b < w'.heap.size)
    (h1 : ∀ j, j < i → w'.cell? ⟨b, j, none⟩ = some (.int .i64 (gi l j))) (h2 : w'.cell? ⟨b, i, none⟩ = some (.int .i64 x)) (h3 : ∀ j, i ≤ j → j < n → w'.cell? ⟨b, j + 1, none⟩ = some (.int .i64 (gi l j))) :
    Ints w' (some ⟨b, 0, none⟩) (n + 1) (Wl.ins l i x) := by
  refine ⟨by rw [Wl.ins_len x (by omega), hl], fun _ => ⟨b, 0, rfl, hb, fun j hj => ?_⟩⟩
  rw [Wl.gi_ins x (by omega), Nat.zero_add]
  by_cases e1 : j < i
  · rw [if_pos e1]; exact h1 j e1
  · rw [if_neg e1]
    by_cases e2 : j = i
    · rw [if_pos e2]; subst e2; exact h2
    · rw [if_neg e2]
      have := h3 (j - 1) (by omega) (by omega)
      rwa [show j - 1 + 1 = j by omega] at this
theorem insert_own (base n i vb : Nat) (v : Value) (l : List Int) (x : Int) (w : World) (hown : w.ownsRow base 3 1 v n (l.map (Value.int .i64))) (hi : i ≤ n) (hn : n ≤ 100000) (hv : w.heap[vb]? = some (.cells #[.int .i64 x] 3 (0, 0))) (hne : ∀ g, v.ownBlock = some g → vb ≠ g) (hbase : base ≤ w.heap.size) :
    Calls Tryz.prog 146 #[v, .int .i64 i, .slice (some ⟨vb, 0, none⟩) 1 1] w (GetIns w base v (Wl.ins l i x)) := by
  have hl : l.length = n := by simpa using hown.1
  have h1v : ∀ v ∈ [Value.int .i64 x], v.oneCell' = true := by intro u hu; simp at hu; subst hu; rfl
  rcases hown.2 with ⟨rfl, rfl⟩ | ⟨g, cap, cur, rfl, hb, hh, hnc, hcm, hcs, htk⟩
  · obtain rfl : i = 0 := by omega
    obtain rfl : l = [] := List.eq_nil_of_length_eq_zero hl
    refine (Any2.slices_Insert_int_end_grow insLays none 0 0 vb 0 1 1 [] [.int .i64 x] w (by omega) (by omega) (by omega) (by omega) rfl rfl (fun _ => rfl) (fun _ h => by cases h) (one_at hv) h1v).mono ?_
    rintro e w' ⟨rfl, rfl⟩
    refine ⟨_, _, _, rfl, ⟨?_, ?_, ?_, fun h => by cases h⟩, ?_, ?_⟩
    · refine ins_ints rfl (Nat.le_refl _) (by simp) (fun j hj => absurd hj (by omega)) ?_ (fun j h1 h2 => absurd h2 (by omega))
      rw [show w.heap.size = (w.drew).heap.size from rfl, World.cell?_alloc_new, Array.getElem?_append_left (by simp)]
      rfl
    · exact grownCap_ge _ _ _ _
    · exact grownCap_le_maxLen _ _ _ _ (by unfold maxLen; omega)
    · intro a ha; injection ha with ha; subst ha; exact ⟨hbase, .inr (Nat.le_refl _)⟩
    · exact ((Kept.refl _ _).drew).alloc _
  · have hg : g < w.heap.size := by
      rcases Nat.lt_or_ge g w.heap.size with h1 | h1
      · exact h1
      · rw [Array.getElem?_eq_none h1] at hh; cases hh
    simp only [Nat.mul_one] at hcs htk
    have hcells := own_cells htk hl hh
    have hgi : ∀ j, j < n → w.cell? ⟨g, j, none⟩ = some (.int .i64 (gi l j)) := fun j hj => by
      have := hcells j _ (map_gi (by omega)); rwa [Nat.zero_add] at this
    have hsome : ∀ j, j < cap → (w.cell? ⟨g, 0 + j, none⟩).isSome = true := fun j hj => by
      simp only [World.cell?, hh, Nat.zero_add]; simp; omega
    have hfz : ∀ j, w.frozen? ⟨g, j, none⟩ = false := fun j => by simp [World.frozen?, hh]
    have hX : g ∈ (Value.slice (some ⟨g, 0, none⟩) n cap).ownBlock.toList := by simp [Value.ownBlock]
    have h1c : ∀ v ∈ l.map (Value.int .i64), v.oneCell' = true := ints_one l
    have hml : (l.map (Value.int .i64)).length = n := by simpa using hl
    unfold maxLen at hcm
    by_cases hend : i = n
    · subst hend
      by_cases hroom : i + 1 ≤ cap
      · refine (Any2.slices_Insert_int_end_room insLays g 0 i cap vb 0 1 1 [.int .i64 x] w (by omega) hroom (by omega) rfl (fun j hj => by have := hsome (i + j) (by omega); rwa [← Nat.add_assoc] at this) (fun j _ => hfz _) (one_at hv) h1v).mono ?_
        rintro e w' ⟨rfl, rfl⟩
        have hin := World.cell?_setCells_in g [.int .i64 x] (0 + i) w (fun j hj => by simp at hj; subst hj; have := hsome i (by omega); simpa using this) 0 (by simp)
        refine ⟨_, _, _, rfl, ⟨?_, hroom, by omega, fun h => by cases h⟩, ?_, ?_⟩
        · refine ins_ints hl (Nat.le_refl _) (by rw [size_setCells]; exact hg) (fun j hj => ?_) (by simpa using hin) (fun j h1 h2 => absurd h2 (by omega))
          rw [World.cell?_setCells_out g _ _ w _ (fun _ _ => .inl (by simp; omega))]; exact hgi j hj
        · intro a ha; injection ha with ha; subst ha; exact ⟨hb, .inl rfl⟩
        · exact Kept.setCells g (.inl hX) _ _ (Kept.refl _ _)
      · refine (Any2.slices_Insert_int_end_grow insLays (some ⟨g, 0, none⟩) i cap vb 0 1 1 (l.map (Value.int .i64)) [.int .i64 x] w (by omega) hnc (by omega) (by omega) hml rfl (fun h => by cases h) (fun a ha j u hu => by injection ha with ha; subst ha; rw [add_lit]; exact hcells j u hu) (one_at hv) h1v).mono ?_
        rintro e w' ⟨rfl, rfl⟩
        refine ⟨_, _, _, rfl, ⟨?_, ?_, ?_, fun h => by cases h⟩, ?_, ?_⟩
        · refine ins_ints hl (Nat.le_refl _) (by simp) (fun j hj => ?_) ?_ (fun j h1 h2 => absurd h2 (by omega))
          · rw [show w.heap.size = (w.drew).heap.size from rfl, World.cell?_alloc_new, Array.getElem?_append_left (by simp; omega)]
            simp [List.getElem?_append_left, hl, hj, gi_lt]
          · rw [show w.heap.size = (w.drew).heap.size from rfl, World.cell?_alloc_new, Array.getElem?_append_left (by simp; omega)]
            simp [hl]
        · exact grownCap_ge _ _ _ _
        · exact grownCap_le_maxLen _ _ _ _ (by unfold maxLen; omega)
        · intro a ha; injection ha with ha; subst ha; exact ⟨hbase, .inr (Nat.le_refl _)⟩
        · exact ((Kept.refl _ _).drew).alloc _
    · by_cases hroom : n + 1 ≤ cap
      · have hvl : vb < w.heap.size := by
          rcases Nat.lt_or_ge vb w.heap.size with h1 | h1
          · exact h1
          · rw [Array.getElem?_eq_none h1] at hv; cases hv
        refine (Any2.slices_Insert_int_shift insLays g 0 n cap i vb 0 1 1 (l.map (Value.int .i64)) [.int .i64 x] w (by omega) (by omega) hroom (by omega) (hne g rfl) hml rfl hcells (fun j hj => hsome j (by omega)) (fun j _ => hfz _) (one_at hv) h1c h1v 3 3 1 cap (by simp [World.shape?, hv]) (by simp [World.shape?, hh, hcs]) (by omega) (by simp [World.frozen?, hv]) (by simp [World.frozen?, hv])).mono ?_
        rintro e w' ⟨rfl, rfl⟩
        have hdl : ((l.map (Value.int .i64)).drop i).length = n - i := by rw [List.length_drop, hml]
        have hdr : ∀ j, j < n - i → ((l.map (Value.int .i64)).drop i)[j]? = some (.int .i64 (gi l (i + j))) := fun j hj => by
          rw [List.getElem?_drop, map_gi (by omega)]
        have hs1 : ∀ j, j < cap → ((w.drew.setCells g (0 + (i + 1)) ((l.map (Value.int .i64)).drop i)).cell? ⟨g, j, none⟩).isSome = true := fun j hj => isSome_setCells g _ _ _ (fun k hk => by have := hsome (i + 1 + k) (by omega); simpa [Nat.add_assoc] using this) j (by have := hsome j hj; simpa using this)
        refine ⟨_, _, _, rfl, ⟨?_, hroom, by omega, fun h => by cases h⟩, ?_, ?_⟩
        · refine ins_ints hl hi (by rw [size_setCells, size_setCells]; exact hg) (fun j hj => ?_) ?_ (fun j h1 h2 => ?_)
          · rw [World.cell?_setCells_out g _ _ _ _ (fun _ _ => .inl (by simp; omega)), World.cell?_setCells_out g _ _ _ _ (fun _ _ => .inl (by simp; omega))]
            exact hgi j (by omega)
          · have := World.cell?_setCells_in g [.int .i64 x] (0 + i) (w.drew.setCells g (0 + (i + 1)) ((l.map (Value.int .i64)).drop i)) (fun j hj => by simp at hj; subst hj; have := hs1 i (by omega); simpa using this) 0 (by simp)
            simpa using this
          · rw [World.cell?_setCells_out g _ _ _ _ (fun _ _ => .inr (by simp; omega))]
            have := World.cell?_setCells_in g ((l.map (Value.int .i64)).drop i) (0 + (i + 1)) w.drew (fun k hk => by have := hsome (i + 1 + k) (by omega); simpa [Nat.add_assoc] using this) (j - i) (by omega)
            rw [show 0 + (i + 1) + (j - i) = j + 1 by omega] at this
            rw [this]
            have h5 := hdr (j - i) (by omega)
            rw [List.getElem?_eq_getElem (by omega), show i + (j - i) = j by omega] at h5
            exact h5
        · intro a ha; injection ha with ha; subst ha; exact ⟨hb, .inl rfl⟩
        · exact Kept.setCells g (.inl hX) _ _ (Kept.setCells g (.inl hX) _ _ (Kept.refl _ _).drew)
      · refine (Any2.slices_Insert_int_grow insLays g 0 n cap i vb 0 1 1 (l.map (Value.int .i64)) [.int .i64 x] w (by omega) (by omega) hnc (by omega) (by omega) hml rfl hcells (one_at hv) h1c h1v).mono ?_
        rintro e w' ⟨rfl, rfl⟩
        have hge := grownCap_ge w (n + 1) cap (insRen.t 3)
        have hdl : ((l.map (Value.int .i64)).drop i).length = n - i := by rw [List.length_drop, hml]
        have hdr : ∀ j, j < n - i → ((l.map (Value.int .i64)).drop i)[j]? = some (.int .i64 (gi l (i + j))) := fun j hj => by
          rw [List.getElem?_drop, map_gi (by omega)]
        generalize hC : grownCap w (n + 1) cap (insRen.t 3) = C at *
        have hsz : ∀ k, (Builtin.zeroCells (Value.int .i64 0).cells k).size = k := by intro k; simp [Builtin.zeroCells, Value.cells]
        obtain ⟨w1, hw1⟩ : ∃ w1 : World, w1 = (w.alloc (.cells (((l.map (Value.int .i64)).take i).toArray ++ Builtin.zeroCells (Value.int .i64 0).cells (n + 1 - i) ++ Builtin.zeroCells (Value.int .i64 0).cells (C - (n + 1))) (insRen.t 3))) := ⟨_, rfl⟩
        rw [← hw1]
        have hc1 : ∀ j, w1.cell? ⟨w.heap.size, j, none⟩ = (((l.map (Value.int .i64)).take i).toArray ++ Builtin.zeroCells (Value.int .i64 0).cells (n + 1 - i) ++ Builtin.zeroCells (Value.int .i64 0).cells (C - (n + 1)))[j]? := fun j => by rw [hw1, World.cell?_alloc_new]
        have hsome1 : ∀ j, j < n + 1 → (w1.cell? ⟨w.heap.size, j, none⟩).isSome = true := fun j hj => by
          rw [hc1]; simp [hsz, hl]; omega
        have hk1 : Kept (Value.slice (some ⟨g, 0, none⟩) n cap).ownBlock.toList w w1 := by rw [hw1]; exact (Kept.refl _ _).alloc _
        have hz1 : w1.heap.size = w.heap.size + 1 := by rw [hw1]; simp
        refine ⟨_, _, _, rfl, ⟨?_, hge, ?_, fun h => by cases h⟩, ?_, ?_⟩
        · refine ins_ints hl hi (by rw [size_setCells]; show _ < (w1.drew.setCells _ _ _).heap.size; rw [size_setCells]; show _ < w1.heap.size; omega) (fun j hj => ?_) ?_ (fun j h1 h2 => ?_)
          · rw [World.cell?_setCells_out _ _ _ _ _ (fun _ _ => .inl (by simp; omega))]
            show (w1.drew.setCells _ _ _).cell? _ = _
            rw [World.cell?_setCells_out _ _ _ _ _ (fun _ _ => .inl (by simp; omega))]
            show w1.cell? _ = _
            rw [hc1, Array.append_assoc, Array.getElem?_append_left (by simp [hl]; omega)]
            rw [List.getElem?_toArray, List.getElem?_take_of_lt hj, map_gi (by omega)]
          · rw [World.cell?_setCells_out _ _ _ _ _ (fun _ _ => .inl (by simp))]
            show (w1.drew.setCells _ _ _).cell? _ = _
            have := World.cell?_setCells_in w.heap.size [.int .i64 x] i w1.drew (fun j hj => by simp at hj; subst hj; exact hsome1 i (by omega)) 0 (by simp)
            simpa using this
          · have h4 : ∀ k, k < n + 1 → ((w1.drew.setCells w.heap.size i [Value.int .i64 x]).drew.cell? ⟨w.heap.size, k, none⟩).isSome = true := fun k hk => by
              show ((w1.drew.setCells w.heap.size i [Value.int .i64 x]).cell? ⟨w.heap.size, k, none⟩).isSome = true
              exact isSome_setCells _ _ _ _ (fun j hj => by simp at hj; subst hj; exact hsome1 i (by omega)) k (hsome1 k hk)
            have := World.cell?_setCells_in w.heap.size ((l.map (Value.int .i64)).drop i) (i + 1) (w1.drew.setCells w.heap.size i [Value.int .i64 x]).drew (fun k hk => h4 _ (by omega)) (j - i) (by omega)
            rw [show i + 1 + (j - i) = j + 1 by omega] at this
            rw [this]
            have h5 := hdr (j - i) (by omega)
            rw [List.getElem?_eq_getElem (by omega), show i + (j - i) = j by omega] at h5
            exact h5
        · rw [← hC]; exact grownCap_le_maxLen _ _ _ _ (by unfold maxLen; omega)
        · intro a ha; injection ha with ha; subst ha; exact ⟨hbase, .inr (Nat.le_refl _)⟩
        · refine Kept.setCells _ (.inr (Nat.le_refl _)) _ _ (Kept.drew (Kept.setCells _ (.inr (Nat.le_refl _)) _ _ hk1.drew))
end Go.Proofs.YtmbihjlflcjlnaaGreat
/- Contracts of Push. -/
namespace Go.Proofs.YtmbihjlflcjlnaaGreat
open Go.RowKit Go.Df
attribute [local go_sem ↓] Go.wp_at_zero Go.wp_at_succ
/-- The error of Push. -/
def Wl.perr (r l : List Int) (x : Int) : Int :=
  if Wl.chk r l ≠ 0 then Wl.chk r l else if Wl.allowed r.length x = false then 4 else if x ∉ l ∧ 8192 ≤ l.length then 3 else 0

set_option maxHeartbeats 400000 in
theorem push_bad (A1 A2 : Option Addr) (n1 c1 n2 c2 : Nat) (r l : List Int) (x : Int) (w : World) (hr : Ints w A1 n1 r) (hl : Ints w A2 n2 l) (hn : n2 ≤ 9223372036854775807) (h : Wl.perr r l x ≠ 0) :
    Calls Tryz.prog 104 #[.agg #[.slice A1 n1 c1, .slice A2 n2 c2], .int .i64 x] w (GetQE w [] [] (Wl.perr r l x)) := by
  have HR := Lib.hid hr
  have HL := Lib.hid hl
  have Hr := Lib.hid hr.1
  have Hl := Lib.hid hl.1
  clear hr hl
  go_enter Tryz.func104, Tryz.ntmps104
  go_upto_region 1 with fail
  refine wp_named (fun W => ∃ b0 b1, w.heap.size = b0 ∧ w.heap.size + 1 = b1 ∧ Blk W b0 [.slice A1 n1 c1, .slice A2 n2 c2] ∧ Blk W b1 [.slice none 0 0, .slice none 0 0] ∧ Below w.heap.size w W) ⟨_, _, rfl, rfl, ?_, ?_, ?_⟩ ?_
  · exact (Blk.new _ _ _ _ (by first | rfl | simp)).alloc _
  · exact Blk.new _ _ _ _ (by first | rfl | simp)
  · go_grown
  rintro W ⟨b0, b1, e0, e1, B0, B1, hB⟩
  rw [e1, e0]
  have G0 : w.heap.size ≤ b0 := by omega
  have n01 : b0 ≠ b1 := by omega
  have G1 : w.heap.size ≤ b1 := by omega
  have n10 : b1 ≠ b0 := by omega
  clear e0 e1
  have ⟨L0, C0, F0⟩ := B0
  have ⟨L1, C1, F1⟩ := B1
  go_wp2_with fail
  refine (wlck_any _ _ _ _ _ _ r l _ (HR.out.later hB) (HL.out.later hB)).mono ?_
  rintro e w1 ⟨rfl, hb1⟩
  have hk1 : Kept [] W w1 := Kept.call (Kept.refl _ _) hb1
  have ⟨hc1, hf1, hg1⟩ := hk1.rules
  by_cases hz : Wl.chk r l = 0
  · rw [hz]
    have HZ := Lib.hid hz
    clear hz
    go_wp2_with fail
    refine (allowed_any _ _ _ _ _ _ _ _).mono ?_
    rintro e w2 ⟨rfl, hb2⟩
    have hk2 : Kept [] W w2 := Kept.call hk1 hb2
    have ⟨hc2, hf2, hg2⟩ := hk2.rules
    by_cases ha : Wl.allowed n1 x = true
    · rw [ha]
      have HA := Lib.hid ha
      clear ha
      go_wp2_with fail
      refine (contains_any _ _ _ l _ _ ((HL.out.later hB).kept hk2) hn).mono ?_
      rintro e w3 ⟨rfl, rfl⟩
      by_cases hm : x ∈ l
      · exact absurd (by unfold Wl.perr; rw [HZ.out, Hr.out, HA.out]; simp [hm]) h
      · have hm' : decide (x ∈ l) = false := by simpa using hm
        rw [hm']
        have hge : 8192 ≤ n2 := by
          rcases Nat.lt_or_ge n2 8192 with h9 | h9
          · exact absurd (by unfold Wl.perr; rw [HZ.out, Hr.out, HA.out, Hl.out]; simp [hm]; omega) h
          · exact h9
        have he : Hid (Wl.perr r l x = 3) := by
          show Wl.perr r l x = 3
          unfold Wl.perr; rw [HZ.out, Hr.out, HA.out, Hl.out]; simp [hm, hge]
        have hd : decide ((8192 : Int) ≤ n2) = true := by simp; omega
        clear hm hm' h
        go_wp2_with fail
        refine bodyPost_ret (by simp [results, Tryz.results104, go_sem, *]; rfl) rfl ?_
        rw [he.out]
        have hkf := ((Kept.refl [b1] w2).set b1 0 (.slice none 0 0) (.inl (by simp))).set b1 1 (.slice none 0 0) (.inl (by simp))
        refine ⟨_, _, _, _, _, _, rfl, SIn.nil _, SIn.nil _, ?_, Fr.none _ _, Fr.none _ _⟩
        exact hkf.below (hk2.below hB hB.size (by simp)) (Nat.le_trans hB.size hk2.size) (by simpa using G1)
    · rw [Bool.not_eq_true] at ha
      have he : Hid (Wl.perr r l x = 4) := by
        show Wl.perr r l x = 4
        unfold Wl.perr; rw [HZ.out, Hr.out, ha]; simp
      rw [ha]
      clear h
      go_wp2_with fail
      refine bodyPost_ret (by simp [results, Tryz.results104, go_sem, *]; rfl) rfl ?_
      rw [he.out]
      have hkf := ((Kept.refl [b1] w2).set b1 0 (.slice none 0 0) (.inl (by simp))).set b1 1 (.slice none 0 0) (.inl (by simp))
      refine ⟨_, _, _, _, _, _, rfl, SIn.nil _, SIn.nil _, ?_, Fr.none _ _, Fr.none _ _⟩
      exact hkf.below (hk2.below hB hB.size (by simp)) (Nat.le_trans hB.size hk2.size) (by simpa using G1)
  · have hz' : (Wl.chk r l != 0) = true := by simpa using hz
    have he : Hid (Wl.perr r l x = Wl.chk r l) := by
      show Wl.perr r l x = _
      unfold Wl.perr; rw [if_pos hz]
    clear h
    go_wp2_with fail
    refine bodyPost_ret (by simp [results, Tryz.results104, go_sem, *]; rfl) rfl ?_
    rw [he.out]
    have hkf := ((Kept.refl [b1] w1).set b1 0 (.slice none 0 0) (.inl (by simp))).set b1 1 (.slice none 0 0) (.inl (by simp))
    refine ⟨_, _, _, _, _, _, rfl, SIn.nil _, SIn.nil _, ?_, Fr.none _ _, Fr.none _ _⟩
    exact hkf.below (hk1.below hB hB.size (by simp)) (Nat.le_trans hB.size hk1.size) (by simpa using G1)
end Go.Proofs.YtmbihjlflcjlnaaGreat
