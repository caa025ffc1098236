/- A pack of texts: Yf Yg Yi Yj. -/
import Derived.Test.YtffkikhknabddaaZw
import Derived.Test.YtffkikhknabddaaYd
import Derived.Test.YtffkikhknabddaaZj
import Derived.Test.YtffkikhknabddaaKl
import Derived.Test.YtffkikhknabddaaZb
import Derived.Test.YtffkikhknabddaaZo
/- The valid paths, level by level. No program in sight. -/
namespace Go.Df
open Go.RowKit
namespace Sp
theorem runS_ok2 {es : List Ed} {a k : Int} {cs r : List Int} (h : (stepS es a cs k).1 = 0) : runS es a cs (k :: r) = runS es (stepS es a cs k).2.1 (stepS es a cs k).2.2 r := by
  rw [runS, if_neg (not_not_intro h)]
theorem runS_bad2 {es : List Ed} {a k : Int} {cs r : List Int} (h : (stepS es a cs k).1 ≠ 0) : runS es a cs (k :: r) = ((stepS es a cs k).1, 0, []) := by
  rw [runS, if_pos h]
theorem run_snoc2 {es : List Ed} : ∀ (xs : List Int) (a : Int) (cs : List Int) (k : Int), runS es a cs (xs ++ [k]) = if (runS es a cs xs).1 ≠ 0 then runS es a cs xs else stepS es (runS es a cs xs).2.1 (runS es a cs xs).2.2 k
  | [], a, cs, k => by
    have h0 : runS es a cs [] = (0, a, cs) := rfl
    rw [h0, List.nil_append, if_neg (by simp)]
    by_cases h : (stepS es a cs k).1 = 0
    · rw [runS_ok2 h]
      exact Prod.ext h.symm rfl
    · rw [runS_bad2 h]
      exact (stepS_err h).symm
  | x :: xs, a, cs, k => by
    rw [List.cons_append]
    by_cases h : (stepS es a cs x).1 = 0
    · rw [runS_ok2 h, runS_ok2 h]
      exact run_snoc2 xs _ _ k
    · rw [runS_bad2 h, runS_bad2 h, if_pos h]
theorem step_ok2 {es : List Ed} {a k : Int} {cs : List Int} (h : (stepS es a cs k).1 = 0) : ∃ x : Nat, k = x ∧ x < es.length ∧ (ge es x).a = a ∧
    ((((ge es x).k = 3 ∨ (ge es x).k = 4) ∧ ∃ r, cs = (ge es x).c :: r ∧ stepS es a cs k = (0, (ge es x).b, r)) ∨
     ((ge es x).k = 2 ∧ stepS es a cs k = (0, (ge es x).b, a :: cs)) ∨
     ((ge es x).k ≠ 2 ∧ (ge es x).k ≠ 3 ∧ (ge es x).k ≠ 4 ∧ stepS es a cs k = (0, (ge es x).b, cs))) := by
  by_cases h1 : k < 0 ∨ (es.length : Int) ≤ k
  · unfold stepS at h
    rw [if_pos h1] at h
    cases h
  · obtain ⟨x, rfl⟩ := Int.eq_ofNat_of_zero_le (show 0 ≤ k by omega)
    refine ⟨x, rfl, by omega, ?_⟩
    unfold stepS at h ⊢
    rw [if_neg h1, Int.toNat_natCast] at h ⊢
    by_cases h2 : (ge es x).a ≠ a
    · rw [if_pos h2] at h
      cases h
    · rw [if_neg h2] at h ⊢
      refine ⟨Classical.not_not.mp h2, ?_⟩
      by_cases h3 : (ge es x).k = 3 ∨ (ge es x).k = 4
      · rw [if_pos h3] at h ⊢
        left
        refine ⟨h3, ?_⟩
        by_cases h4 : cs = [] ∨ gi cs 0 ≠ (ge es x).c
        · rw [if_pos h4] at h
          cases h
        · rw [if_neg h4]
          cases cs with
          | nil => exact absurd (Or.inl rfl) h4
          | cons c r =>
            have : c = (ge es x).c := Classical.byContradiction (fun hh => h4 (Or.inr hh))
            exact ⟨r, by rw [this], rfl⟩
      · rw [if_neg h3] at h ⊢
        right
        by_cases h4 : (ge es x).k = 2
        · rw [if_pos h4]
          exact .inl ⟨h4, rfl⟩
        · rw [if_neg h4]
          exact .inr ⟨h4, fun hh => h3 (.inl hh), fun hh => h3 (.inr hh), rfl⟩
theorem flt_mem {es : List Ed} {a : Int} {cs l : List Int} {k : Int} : ∀ {j : Nat}, j ≤ l.length → (k ∈ flt es a cs l j ↔ ∃ i, i < j ∧ gi l i = k ∧ (stepS es a cs k).1 = 0)
  | 0, _ => by simp [flt]
  | j + 1, h => by
    have ih := flt_mem (es := es) (a := a) (cs := cs) (l := l) (k := k) (j := j) (by omega)
    unfold flt
    constructor
    · intro hm
      have hm' : k ∈ flt es a cs l j ∨ ((stepS es a cs (gi l j)).1 = 0 ∧ k = gi l j) := by
        split at hm
        · rename_i h0
          rcases List.mem_append.1 hm with h1 | h1
          · exact .inl h1
          · exact .inr ⟨h0, by simpa using h1⟩
        · exact .inl hm
      rcases hm' with h1 | ⟨h1, rfl⟩
      · obtain ⟨i, hi, e, hs⟩ := ih.1 h1
        exact ⟨i, by omega, e, hs⟩
      · exact ⟨j, by omega, rfl, h1⟩
    · rintro ⟨i, hi, rfl, hs⟩
      by_cases e : i = j
      · subst e
        rw [if_pos hs]
        simp
      · have := ih.2 ⟨i, by omega, rfl, hs⟩
        split
        · exact List.mem_append.2 (.inl this)
        · exact this
theorem outS_mem {es : List Ed} {x k : Int} : ∀ {j : Nat}, k ∈ outS es x j ↔ ∃ i : Nat, i < j ∧ k = i ∧ (ge es i).a = x
  | 0 => by simp [outS]
  | j + 1 => by
    have ih := outS_mem (es := es) (x := x) (k := k) (j := j)
    unfold outS
    constructor
    · intro hm
      have hm' : k ∈ outS es x j ∨ ((ge es j).a = x ∧ k = j) := by
        split at hm
        · rename_i h0
          rcases List.mem_append.1 hm with h1 | h1
          · exact .inl h1
          · exact .inr ⟨h0, by simpa using h1⟩
        · exact .inl hm
      rcases hm' with h1 | ⟨h1, rfl⟩
      · obtain ⟨i, hi, e, hs⟩ := ih.1 h1
        exact ⟨i, by omega, e, hs⟩
      · exact ⟨j, by omega, rfl, h1⟩
    · rintro ⟨i, hi, rfl, hs⟩
      by_cases e : i = j
      · subst e
        rw [if_pos hs]
        simp
      · have := ih.2 ⟨i, by omega, rfl, hs⟩
        split
        · exact List.mem_append.2 (.inl this)
        · exact this
/-- The edges that a path may take are those that can be stepped. -/
theorem nextS_mem {es : List Ed} {a : Int} {cs : List Int} {k : Int} : k ∈ nextS es a cs ↔ (stepS es a cs k).1 = 0 := by
  unfold nextS
  rw [flt_mem (Nat.le_refl _)]
  constructor
  · rintro ⟨_, _, _, h⟩; exact h
  · intro h
    obtain ⟨x, rfl, hx, ha, _⟩ := step_ok2 h
    have hm : (x : Int) ∈ outS es a es.length := outS_mem.2 ⟨x, hx, rfl, ha⟩
    obtain ⟨i, hi, e⟩ := List.getElem_of_mem hm
    exact ⟨i, hi, by rw [gi_lt hi]; exact e, h⟩
theorem nextS_len (es : List Ed) (a : Int) (cs : List Int) : (nextS es a cs).length ≤ es.length := Nat.le_trans (flt_len _ _ _ _ _) (outS_len _ _ _)
/-- A path under way: its edges, where it is, its calls. -/
structure It where
  pa : List Int
  at_ : Int
  cs : List Int
def nextI (es : List Ed) (x : It) (k : Int) : It := ⟨x.pa ++ [k], (stepS es x.at_ x.cs k).2.1, (stepS es x.at_ x.cs k).2.2⟩
def sucI (es : List Ed) (x : It) : List It := (nextS es x.at_ x.cs).map (nextI es x)
/-- The paths of a level that still fit are told, and those behind them are found. -/
def rndI (es : List Ed) (count : Nat) (s : List (List Int) × List It) : List (List Int) × List It :=
  (s.1 ++ (s.2.take (count - s.1.length)).map It.pa, ((s.2.take (count - s.1.length)).flatMap (sucI es)).take count)
def itI (es : List Ed) (count : Nat) (a : Int) : Nat → List (List Int) × List It
  | 0 => ([], [⟨[], a, []⟩])
  | n + 1 => rndI es count (itI es count a n)
theorem stepS_cs {es : List Ed} {a k : Int} {cs : List Int} : (stepS es a cs k).2.2.length ≤ cs.length + 1 := by
  unfold stepS
  (repeat' split) <;> simp <;> omega
section
variable {es : List Ed} {count : Nat} {a : Int}
theorem itI_out_len : ∀ n, (itI es count a n).1.length ≤ count
  | 0 => Nat.zero_le _
  | n + 1 => by
    have := itI_out_len n
    show (rndI es count (itI es count a n)).1.length ≤ count
    unfold rndI
    simp
    omega
theorem itI_now_len : ∀ n, (itI es count a n).2.length ≤ count + 1
  | 0 => by simp [itI]
  | n + 1 => by
    show (rndI es count (itI es count a n)).2.length ≤ count + 1
    unfold rndI
    simp
    omega
theorem itI_path : ∀ n, ∀ x ∈ (itI es count a n).2, x.pa.length = n ∧ x.cs.length ≤ n
  | 0, x, h => by
    have : x = ⟨[], a, []⟩ := by simpa [itI] using h
    subst this
    exact ⟨rfl, Nat.le_refl _⟩
  | n + 1, x, h => by
    have h : x ∈ (rndI es count (itI es count a n)).2 := h
    unfold rndI at h
    have h := List.mem_of_mem_take h
    obtain ⟨y, hy, hx⟩ := List.mem_flatMap.1 h
    have h9 := itI_path n y (List.mem_of_mem_take hy)
    obtain ⟨k, _, rfl⟩ := List.mem_map.1 hx
    have := stepS_cs (es := es) (a := y.at_) (k := k) (cs := y.cs)
    refine ⟨by show (y.pa ++ [k]).length = _; simp [h9.1], ?_⟩
    show (stepS es y.at_ y.cs k).2.2.length ≤ _
    omega
theorem itI_out_path : ∀ n, ∀ p ∈ (itI es count a n).1, p.length < n
  | 0, p, h => by simp [itI] at h
  | n + 1, p, h => by
    have h : p ∈ (rndI es count (itI es count a n)).1 := h
    unfold rndI at h
    rcases List.mem_append.1 h with h | h
    · have := itI_out_path n p h; omega
    · obtain ⟨x, hx, rfl⟩ := List.mem_map.1 h
      have := itI_path n x (List.mem_of_mem_take hx)
      omega
/-- Where nothing is left, or enough are told, more rounds tell no more. -/
theorem itI_stop {n : Nat} (h : (itI es count a n).2 = [] ∨ count ≤ (itI es count a n).1.length) : ∀ m, (itI es count a (n + m)).1 = (itI es count a n).1 ∧ ((itI es count a (n + m)).2 = [] ∨ count ≤ (itI es count a (n + m)).1.length)
  | 0 => ⟨rfl, h⟩
  | m + 1 => by
    obtain ⟨h1, h2⟩ := itI_stop h m
    have e : itI es count a (n + (m + 1)) = rndI es count (itI es count a (n + m)) := rfl
    have h3 : (itI es count a (n + m)).2.take (count - (itI es count a (n + m)).1.length) = [] := by
      rcases h2 with h2 | h2
      · rw [h2]; simp
      · rw [show count - (itI es count a (n + m)).1.length = 0 by omega]; simp
    rw [e]
    unfold rndI
    rw [h3]
    exact ⟨by simpa using h1, .inl (by simp)⟩
theorem itI_sound : ∀ n, ∀ x ∈ (itI es count a n).2, runS es a [] x.pa = (0, x.at_, x.cs)
  | 0, x, h => by
    have : x = ⟨[], a, []⟩ := by simpa [itI] using h
    subst this
    rfl
  | n + 1, x, h => by
    have h : x ∈ (rndI es count (itI es count a n)).2 := h
    unfold rndI at h
    have h := List.mem_of_mem_take h
    obtain ⟨y, hy, hx⟩ := List.mem_flatMap.1 h
    have h9 := itI_sound n y (List.mem_of_mem_take hy)
    obtain ⟨k, hk, rfl⟩ := List.mem_map.1 hx
    show runS es a [] (y.pa ++ [k]) = _
    rw [run_snoc2, if_neg (by rw [h9]; simp), h9]
    have h0 := nextS_mem.1 hk
    show stepS es y.at_ y.cs k = (0, (stepS es y.at_ y.cs k).2.1, (stepS es y.at_ y.cs k).2.2)
    rw [← h0]
theorem itI_out_sound : ∀ n, ∀ p ∈ (itI es count a n).1, (runS es a [] p).1 = 0
  | 0, p, h => by simp [itI] at h
  | n + 1, p, h => by
    have h : p ∈ (rndI es count (itI es count a n)).1 := h
    unfold rndI at h
    rcases List.mem_append.1 h with h | h
    · exact itI_out_sound n p h
    · obtain ⟨x, hx, rfl⟩ := List.mem_map.1 h
      rw [itI_sound n x (List.mem_of_mem_take hx)]
theorem itI_mono (n : Nat) : (itI es count a n).1.length ≤ (itI es count a (n + 1)).1.length := by
  show _ ≤ (rndI es count (itI es count a n)).1.length
  unfold rndI
  simp
theorem itI_monoL {m n : Nat} (h : m ≤ n) : (itI es count a m).1.length ≤ (itI es count a n).1.length := by
  induction h with
  | refl => exact Nat.le_refl _
  | step _ ih => exact Nat.le_trans ih (itI_mono _)
theorem itI_sub {m n : Nat} (h : m ≤ n) {p : List Int} (hp : p ∈ (itI es count a m).1) : p ∈ (itI es count a n).1 := by
  induction h with
  | refl => exact hp
  | @step n _ ih =>
    show p ∈ (rndI es count (itI es count a n)).1
    unfold rndI
    exact List.mem_append.2 (.inl ih)
theorem itI_whole {n : Nat} (h : (itI es count a (n + 1)).1.length < count) : (itI es count a n).1.length + (itI es count a n).2.length = (itI es count a (n + 1)).1.length ∧ (itI es count a n).2.take (count - (itI es count a n).1.length) = (itI es count a n).2 := by
  have h1 : (itI es count a (n + 1)).1.length = (rndI es count (itI es count a n)).1.length := rfl
  unfold rndI at h1
  simp at h1
  exact ⟨by omega, List.take_of_length_le (by omega)⟩
/-- As long as not enough are told, each level is whole. -/
theorem itI_full : ∀ (m : Nat), (itI es count a (m + 1)).1.length < count → ∀ (p : List Int) (n : Int) (cs : List Int), p.length = m → runS es a [] p = (0, n, cs) → ⟨p, n, cs⟩ ∈ (itI es count a m).2
  | 0, _, p, n, cs, hl, h => by
    obtain rfl : p = [] := List.length_eq_zero_iff.1 hl
    rw [runS] at h
    injection h with _ h
    injection h with h1 h2
    subst h1 h2
    simp [itI]
  | m + 1, hc, p, n, cs, hl, h => by
    rcases List.eq_nil_or_concat p with e | ⟨q, k, e⟩
    · rw [e] at hl; simp at hl
    · rw [List.concat_eq_append] at e
      subst e
      have hq : q.length = m := by simpa using hl
      have hm1 : (itI es count a (m + 1)).1.length < count := Nat.lt_of_le_of_lt (itI_mono _) hc
      rw [run_snoc2] at h
      by_cases h0 : (runS es a [] q).1 = 0
      case neg =>
        rw [if_pos h0] at h
        rw [h] at h0
        exact absurd rfl h0
      rw [if_neg (not_not_intro h0)] at h
      have ih := itI_full m hm1 q (runS es a [] q).2.1 (runS es a [] q).2.2 hq (by rw [← h0])
      generalize (runS es a [] q).2.1 = n1 at h ih
      generalize (runS es a [] q).2.2 = c1 at h ih
      have hk : k ∈ nextS es n1 c1 := nextS_mem.2 (by rw [h])
      have hx : (⟨q ++ [k], n, cs⟩ : It) ∈ sucI es ⟨q, n1, c1⟩ := List.mem_map.2 ⟨k, hk, by unfold nextI; rw [h]⟩
      have h5 := itI_whole hm1
      have h6 := itI_whole hc
      have e : (itI es count a (m + 1)).2 = ((itI es count a m).2.flatMap (sucI es)).take count := by
        show (rndI es count (itI es count a m)).2 = _
        unfold rndI
        rw [h5.2]
      have hlen : ((itI es count a m).2.flatMap (sucI es)).length < count := by
        have h7 : (itI es count a (m + 1)).2.length < count := by omega
        rw [e, List.length_take] at h7
        omega
      rw [e, List.take_of_length_le (by omega)]
      exact List.mem_flatMap.2 ⟨_, ih, hx⟩
/-- Where the next level tells no more, all valid paths have been told. -/
theorem itI_all {n : Nat} (h : (itI es count a (n + 1)).1.length < count) (he : (itI es count a n).1.length = (itI es count a (n + 1)).1.length) (p : List Int) (hp : (runS es a [] p).1 = 0) : p ∈ (itI es count a n).1 := by
  have hn : (itI es count a n).2 = [] := List.length_eq_zero_iff.1 (by have := (itI_whole h).1; omega)
  have hpre : ∀ (r q : List Int), (runS es a [] (q ++ r)).1 = 0 → (runS es a [] q).1 = 0 := by
    intro r
    induction r with
    | nil => intro q h; simpa using h
    | cons y r ih =>
      intro q h
      have h1 := ih (q ++ [y]) (by simpa using h)
      rw [run_snoc2] at h1
      by_cases h0 : (runS es a [] q).1 = 0
      · exact h0
      · rw [if_pos h0] at h1; exact h1
  have hfull : ∀ m, m ≤ n → ∀ q : List Int, q.length = m → (runS es a [] q).1 = 0 → (⟨q, (runS es a [] q).2.1, (runS es a [] q).2.2⟩ : It) ∈ (itI es count a m).2 := fun m hm q hq h0 => by
    refine itI_full m (Nat.lt_of_le_of_lt (itI_monoL (by omega)) h) q _ _ hq ?_
    rw [← h0]
  have hl : p.length < n := by
    refine Nat.lt_of_not_le fun hle => ?_
    have e : p.take n ++ p.drop n = p := List.take_append_drop n p
    have h1 := hfull n (Nat.le_refl _) (p.take n) (by rw [List.length_take]; omega) (hpre (p.drop n) _ (by rw [e]; exact hp))
    rw [hn] at h1
    simp at h1
  have h2 := hfull p.length (by omega) p rfl hp
  refine itI_sub (m := p.length + 1) (by omega) ?_
  show p ∈ (rndI es count (itI es count a p.length)).1
  have h3 := itI_whole (es := es) (count := count) (a := a) (n := p.length) (Nat.lt_of_le_of_lt (itI_monoL (by omega)) h)
  unfold rndI
  rw [h3.2]
  exact List.mem_append.2 (.inr (List.mem_map.2 ⟨_, h2, rfl⟩))
end
end Sp
end Go.Df
/- The lists of All in memory. No program in sight. -/
namespace Go.Df
open Go.RowKit
/-- A slice of numbers in a block that nobody owns. -/
structure SInP (O : Nat → Prop) (w : World) (A : Option Addr) (n c : Nat) (l : List Int) : Prop where
  sin : SIn w A n c l
  safe : ∀ a, A = some a → SafeB O w a.block
theorem SInP.fx {O O' : Nat → Prop} {w w' : World} {A : Option Addr} {n c : Nat} {l : List Int} (h : SInP O w A n c l) (f : Fx O O' w w') : SInP O' w' A n c l := by
  refine ⟨⟨⟨h.sin.1.1, fun hn => ?_⟩, h.sin.2⟩, fun a ha => (h.safe a ha).fx f⟩
  obtain ⟨b, o, e, hl, hc⟩ := h.sin.1.2 hn
  have hs := h.safe _ e
  exact ⟨b, o, e, (hs.fx f).1, fun i hi => (hs.cell f (o + i)).trans (hc i hi)⟩
theorem SInP.new {O : Nat → Prop} {w w' : World} {A : Option Addr} {n c : Nat} {l : List Int} (h : SIn w' A n c l) (hf : Fr w w' A) (hO : ∀ x, O x → x < w.heap.size) : SInP O w' A n c l :=
  ⟨h, fun a ha => ⟨(hf a ha).2, fun ho => by have := hO _ ho; have := (hf a ha).1; omega⟩⟩
/-- What a step makes of a safe slice. -/
theorem SInP.step {O : Nat → Prop} {w w1 : World} {A A' : Option Addr} {n c n' c' : Nat} {l l' : List Int} (h : SInP O w A n c l) (hk : Kept [] w w1) (hi : SIn w1 A' n' c' l')
    (hf : ∀ a, A' = some a → (∃ a0, A = some a0 ∧ a.block = a0.block) ∨ (w.heap.size ≤ a.block ∧ a.block < w1.heap.size)) (hO : ∀ x, O x → x < w.heap.size) : SInP O w1 A' n' c' l' := by
  refine ⟨hi, fun a ha => ?_⟩
  rcases hf a ha with ⟨a0, h1, h2⟩ | ⟨h1, h2⟩
  · rw [h2]
    exact (h.safe a0 h1).fx (.same hk)
  · exact ⟨h2, fun ho => by have := hO _ ho; omega⟩
/-- A change in a block that the slice does not lie in. -/
theorem SInP.keptX {O : Nat → Prop} {X : List Nat} {w w1 : World} {A : Option Addr} {n c : Nat} {l : List Int} (h : SInP O w A n c l) (hk : Kept X w w1) (hX : ∀ a, A = some a → a.block ∉ X) : SInP O w1 A n c l :=
  ⟨h.sin.keptX hk (fun _ a ha => hX a ha), fun a ha => ⟨Nat.lt_of_lt_of_le (h.safe a ha).1 hk.size, (h.safe a ha).2⟩⟩
theorem SInP.none (O : Nat → Prop) (w : World) : SInP O w none 0 0 [] := ⟨SIn.nil w, fun a h => by cases h⟩
def Vl (O : Nat → Prop) (w : World) (v : Value) (l : List Int) : Prop := ∃ A n c, v = .slice A n c ∧ SInP O w A n c l
theorem Vl.fx {O O' : Nat → Prop} {w w' : World} {v : Value} {l : List Int} (h : Vl O w v l) (f : Fx O O' w w') : Vl O' w' v l := by
  obtain ⟨A, n, c, e, h⟩ := h
  exact ⟨A, n, c, e, h.fx f⟩
/-- What is appended to something new is a safe slice. -/
theorem vl_own {O : Nat → Prop} {w w6 w7 : World} {A : Option Addr} {n c : Nat} {l : List Int} (h : ∃ A' c', (Value.slice A n c) = .slice A' n c' ∧ SIn w6 A' n c' l ∧ ∀ a, A' = some a → w.heap.size ≤ a.block ∧ a.block < w6.heap.size) (hO : ∀ x, O x → x < w.heap.size) (hk : Kept [] w6 w7) : Vl O w7 (.slice A n c) l := by
  obtain ⟨A', c', e, hin, hge⟩ := h
  injection e with e1 _ e3
  subst e1 e3
  exact ⟨A, n, c, rfl, (SInP.new (w := w) hin hge hO).fx (.same hk)⟩
/-- Slices of numbers, one cell each. -/
def VlS (O : Nat → Prop) (w : World) (vs : List Value) (ls : List (List Int)) : Prop := vs.length = ls.length ∧ ∀ (i : Nat) (l : List Int), ls[i]? = some l → ∃ v, vs[i]? = some v ∧ Vl O w v l
theorem VlS.fx {O O' : Nat → Prop} {w w' : World} {vs : List Value} {ls : List (List Int)} (h : VlS O w vs ls) (f : Fx O O' w w') : VlS O' w' vs ls :=
  ⟨h.1, fun i l e => by obtain ⟨v, h1, h2⟩ := h.2 i l e; exact ⟨v, h1, h2.fx f⟩⟩
theorem VlS.nil (O : Nat → Prop) (w : World) : VlS O w [] [] := ⟨rfl, fun i l e => by simp at e⟩
theorem VlS.snoc {O : Nat → Prop} {w : World} {vs : List Value} {ls : List (List Int)} {v : Value} {l : List Int} (h : VlS O w vs ls) (hv : Vl O w v l) : VlS O w (vs ++ [v]) (ls ++ [l]) := by
  refine ⟨by simp [h.1], fun i l' e => ?_⟩
  by_cases hi : i < ls.length
  · rw [List.getElem?_append_left hi] at e
    obtain ⟨v', h1, h2⟩ := h.2 i l' e
    exact ⟨v', by rw [List.getElem?_append_left (by rw [h.1]; exact hi)]; exact h1, h2⟩
  · rw [List.getElem?_append_right (by omega)] at e
    have hi2 : i - ls.length = 0 := by
      rcases Nat.lt_or_ge 0 (i - ls.length) with h9 | h9
      · rw [List.getElem?_eq_none (by simp; omega)] at e; cases e
      · omega
    rw [hi2] at e
    have e : l = l' := by simpa using e
    subst e
    refine ⟨v, ?_, hv⟩
    rw [List.getElem?_append_right (by rw [h.1]; omega), h.1, hi2]
    rfl
/-- States, two cells each: where, and the calls. -/
def Cs (O : Nat → Prop) (w : World) (vs : List Value) (l : List (Int × List Int)) : Prop := vs.length = l.length * 2 ∧ ∀ (i : Nat) (x : Int × List Int), l[i]? = some x → vs[i * 2]? = some (.int .i64 x.1) ∧ ∃ v, vs[i * 2 + 1]? = some v ∧ Vl O w v x.2.reverse
theorem Cs.fx {O O' : Nat → Prop} {w w' : World} {vs : List Value} {l : List (Int × List Int)} (h : Cs O w vs l) (f : Fx O O' w w') : Cs O' w' vs l :=
  ⟨h.1, fun i x e => by obtain ⟨h0, v, h1, h2⟩ := h.2 i x e; exact ⟨h0, v, h1, h2.fx f⟩⟩
theorem Cs.nil (O : Nat → Prop) (w : World) : Cs O w [] [] := ⟨rfl, fun i l e => by simp at e⟩
theorem Cs.snoc {O : Nat → Prop} {w : World} {vs : List Value} {l : List (Int × List Int)} {v : Value} {a : Int} {cs : List Int} (h : Cs O w vs l) (hv : Vl O w v cs.reverse) : Cs O w (vs ++ [.int .i64 a, v]) (l ++ [(a, cs)]) := by
  refine ⟨by simp [h.1]; omega, fun i x e => ?_⟩
  by_cases hi : i < l.length
  · rw [List.getElem?_append_left hi] at e
    obtain ⟨h0, v', h1, h2⟩ := h.2 i x e
    exact ⟨by rw [List.getElem?_append_left (by rw [h.1]; omega)]; exact h0, v', by rw [List.getElem?_append_left (by rw [h.1]; omega)]; exact h1, h2⟩
  · rw [List.getElem?_append_right (by omega)] at e
    have hi2 : i - l.length = 0 := by
      rcases Nat.lt_or_ge 0 (i - l.length) with h9 | h9
      · rw [List.getElem?_eq_none (by simp; omega)] at e; cases e
      · omega
    rw [hi2] at e
    have e : (a, cs) = x := by simpa using e
    subst e
    have hi3 : i = l.length := by omega
    subst hi3
    refine ⟨?_, v, ?_, hv⟩
    · rw [List.getElem?_append_right (by rw [h.1]; omega), h.1, Nat.sub_self]; rfl
    · rw [List.getElem?_append_right (by rw [h.1]; omega), h.1, show l.length * 2 + 1 - l.length * 2 = 1 by omega]; rfl
def ow3 (a b c : Value) (x : Nat) : Prop := a.ownBlock = some x ∨ b.ownBlock = some x ∨ c.ownBlock = some x
/-- The lists of All in memory: what is told (ov), what is found (nv, lv), and the level that is read (An, As). -/
structure AM (te ts : TypeId) (lim : Nat) (w : World) (ov nv lv : Value) (An As : Option Addr) (out nx : List (List Int)) (lt : List (Int × List Int)) (Ln : List (List Int)) (Ls : List (Int × List Int)) : Prop where
  own1 : ∃ vs, w.ownsRow lim te 1 ov out.length vs ∧ VlS (ow3 ov nv lv) w vs out
  own2 : ∃ vs, w.ownsRow lim te 1 nv nx.length vs ∧ VlS (ow3 ov nv lv) w vs nx
  own3 : ∃ vs, w.ownsRow lim ts 2 lv lt.length vs ∧ Cs (ow3 ov nv lv) w vs lt
  now : ∃ vs, Rd w 1 An Ln.length vs ∧ VlS (ow3 ov nv lv) w vs Ln
  sts : ∃ vs, Rd w 2 As Ls.length vs ∧ Cs (ow3 ov nv lv) w vs Ls
  sn : ∀ a, An = some a → SafeB (ow3 ov nv lv) w a.block
  ss : ∀ a, As = some a → SafeB (ow3 ov nv lv) w a.block
  d12 : ∀ x, ov.ownBlock = some x → nv.ownBlock ≠ some x
  d13 : ∀ x, ov.ownBlock = some x → lv.ownBlock ≠ some x
  d23 : ∀ x, nv.ownBlock = some x → lv.ownBlock ≠ some x
section
variable {te ts : TypeId} {lim : Nat} {w w1 : World} {ov nv lv ov' nv' lv' : Value} {An As : Option Addr} {out nx : List (List Int)} {lt : List (Int × List Int)} {Ln : List (List Int)} {Ls : List (Int × List Int)}
theorem rd_fx {O O' : Nat → Prop} {k n : Nat} {A : Option Addr} {cs : List Value} (h : Rd w k A n cs) (hs : ∀ a, A = some a → SafeB O w a.block) (f : Fx O O' w w1) : Rd w1 k A n cs :=
  ⟨h.1, fun hn => by
    obtain ⟨b, o, e, hl, hc⟩ := h.2 hn
    have h9 := hs _ e
    exact ⟨b, o, e, (h9.fx f).1, fun j hj => (h9.cell f (o + j)).trans (hc j hj)⟩⟩
theorem own_fx {base : Nat} {e : TypeId} {k n : Nat} {v : Value} {xs : List Value} (h : w.ownsRow base e k v n xs) (hk : Kept [] w w1) : w1.ownsRow base e k v n xs := own_keptT h hk (by simp)
theorem AM.kept (h : AM te ts lim w ov nv lv An As out nx lt Ln Ls) (hk : Kept [] w w1) : AM te ts lim w1 ov nv lv An As out nx lt Ln Ls := by
  have f : Fx (ow3 ov nv lv) (ow3 ov nv lv) w w1 := .same hk
  obtain ⟨v1, a1, b1⟩ := h.own1
  obtain ⟨v2, a2, b2⟩ := h.own2
  obtain ⟨v3, a3, b3⟩ := h.own3
  obtain ⟨v4, a4, b4⟩ := h.now
  obtain ⟨v5, a5, b5⟩ := h.sts
  exact ⟨⟨v1, own_fx a1 hk, b1.fx f⟩, ⟨v2, own_fx a2 hk, b2.fx f⟩, ⟨v3, own_fx a3 hk, b3.fx f⟩, ⟨v4, rd_fx a4 h.sn f, b4.fx f⟩, ⟨v5, rd_fx a5 h.ss f, b5.fx f⟩, fun a e => (h.sn a e).fx f, fun a e => (h.ss a e).fx f, h.d12, h.d13, h.d23⟩
theorem AM.rng (h : AM te ts lim w ov nv lv An As out nx lt Ln Ls) {x : Nat} (hx : ow3 ov nv lv x) : lim ≤ x ∧ x < w.heap.size := by
  obtain ⟨v1, a1, _⟩ := h.own1
  obtain ⟨v2, a2, _⟩ := h.own2
  obtain ⟨v3, a3, _⟩ := h.own3
  rcases hx with hx | hx | hx
  · exact ⟨own_ge a1 hx, own_lt2 a1 hx⟩
  · exact ⟨own_ge a2 hx, own_lt2 a2 hx⟩
  · exact ⟨own_ge a3 hx, own_lt2 a3 hx⟩
/-- One more path is told. -/
theorem AM.tell (h : AM te ts lim w ov nv lv An As out nx lt Ln Ls) : ∃ vs, w.ownsRow lim te 1 ov out.length vs ∧ ∀ w1 ov' v l, Kept ov.ownBlock.toList w w1 → w1.ownsRow lim te 1 ov' (out.length + 1) (vs ++ [v]) →
    (∀ g, ov'.ownBlock = some g → ov.ownBlock = some g ∨ g = w.heap.size) → Vl (ow3 ov nv lv) w v l → AM te ts lim w1 ov' nv lv An As (out ++ [l]) nx lt Ln Ls := by
  obtain ⟨v1, a1, b1⟩ := h.own1
  refine ⟨v1, a1, fun w1 ov' v l hk hown hg hv => ?_⟩
  obtain ⟨v2, a2, b2⟩ := h.own2
  obtain ⟨v3, a3, b3⟩ := h.own3
  obtain ⟨v4, a4, b4⟩ := h.now
  obtain ⟨v5, a5, b5⟩ := h.sts
  have f : Fx (ow3 ov nv lv) (ow3 ov' nv lv) w w1 := .of hk (fun x hx => .inl (.inl (by simpa using hx))) (fun x hx => by
    rcases hx with hx | hx | hx
    · rcases hg x hx with h9 | h9
      · exact .inl (.inl h9)
      · exact .inr (by omega)
    · exact .inl (.inr (.inl hx))
    · exact .inl (.inr (.inr hx)))
  refine ⟨⟨_, by rw [List.length_append]; exact hown, (b1.fx f).snoc (hv.fx f)⟩, ⟨v2, own_keptT a2 hk (fun g hg2 hm => h.d12 g (by simpa using hm) hg2), b2.fx f⟩, ⟨v3, own_keptT a3 hk (fun g hg2 hm => h.d13 g (by simpa using hm) hg2), b3.fx f⟩, ⟨v4, rd_fx a4 h.sn f, b4.fx f⟩, ⟨v5, rd_fx a5 h.ss f, b5.fx f⟩, fun a e => (h.sn a e).fx f, fun a e => (h.ss a e).fx f, fun x hx => ?_, fun x hx => ?_, h.d23⟩
  · rcases hg x hx with h9 | h9
    · exact h.d12 x h9
    · intro h8; have := own_lt2 a2 h8; omega
  · rcases hg x hx with h9 | h9
    · exact h.d13 x h9
    · intro h8; have := own_lt2 a3 h8; omega
/-- One more path is found. -/
theorem AM.find (h : AM te ts lim w ov nv lv An As out nx lt Ln Ls) : ∃ vs, w.ownsRow lim te 1 nv nx.length vs ∧ ∀ w0 w1 nv' v l, Kept [] w w0 → Kept nv.ownBlock.toList w0 w1 → w1.ownsRow lim te 1 nv' (nx.length + 1) (vs ++ [v]) →
    (∀ g, nv'.ownBlock = some g → nv.ownBlock = some g ∨ g = w0.heap.size) → Vl (ow3 ov nv lv) w0 v l → AM te ts lim w1 ov nv' lv An As out (nx ++ [l]) lt Ln Ls := by
  obtain ⟨v2, a2, b2⟩ := h.own2
  refine ⟨v2, a2, fun w0 w1 nv' v l hk0 hk hown hg hv => ?_⟩
  have f0 : Fx (ow3 ov nv lv) (ow3 ov nv lv) w w0 := .same hk0
  have h0 := h.kept hk0
  obtain ⟨v1, a1, b1⟩ := h0.own1
  obtain ⟨v3, a3, b3⟩ := h0.own3
  obtain ⟨v4, a4, b4⟩ := h0.now
  obtain ⟨v5, a5, b5⟩ := h0.sts
  have f : Fx (ow3 ov nv lv) (ow3 ov nv' lv) w0 w1 := .of hk (fun x hx => .inl (.inr (.inl (by simpa using hx)))) (fun x hx => by
    rcases hx with hx | hx | hx
    · exact .inl (.inl hx)
    · rcases hg x hx with h9 | h9
      · exact .inl (.inr (.inl h9))
      · exact .inr (by omega)
    · exact .inl (.inr (.inr hx)))
  refine ⟨⟨v1, own_keptT a1 hk (fun g hg2 hm => h.d12 g hg2 (by simpa using hm)), b1.fx f⟩, ⟨_, by rw [List.length_append]; exact hown, ((b2.fx f0).fx f).snoc (hv.fx f)⟩, ⟨v3, own_keptT a3 hk (fun g hg2 hm => h.d23 g (by simpa using hm) hg2), b3.fx f⟩, ⟨v4, rd_fx a4 h0.sn f, b4.fx f⟩, ⟨v5, rd_fx a5 h0.ss f, b5.fx f⟩, fun a e => (h0.sn a e).fx f, fun a e => (h0.ss a e).fx f, fun x hx hx2 => ?_, h.d13, fun x hx => ?_⟩
  · rcases hg x hx2 with h9 | h9
    · exact h.d12 x hx h9
    · have := own_lt2 a1 hx; omega
  · rcases hg x hx with h9 | h9
    · exact h.d23 x h9
    · intro h8; have := own_lt2 a3 h8; omega
/-- One more state is found. -/
theorem AM.findS (h : AM te ts lim w ov nv lv An As out nx lt Ln Ls) : ∃ vs, w.ownsRow lim ts 2 lv lt.length vs ∧ ∀ w0 w1 lv' a v cs, Kept [] w w0 → Kept lv.ownBlock.toList w0 w1 → w1.ownsRow lim ts 2 lv' (lt.length + 1) (vs ++ [.int .i64 a, v]) →
    (∀ g, lv'.ownBlock = some g → lv.ownBlock = some g ∨ g = w0.heap.size) → Vl (ow3 ov nv lv) w0 v cs.reverse → AM te ts lim w1 ov nv lv' An As out nx (lt ++ [(a, cs)]) Ln Ls := by
  obtain ⟨v3, a3, b3⟩ := h.own3
  refine ⟨v3, a3, fun w0 w1 lv' a v cs hk0 hk hown hg hv => ?_⟩
  have f0 : Fx (ow3 ov nv lv) (ow3 ov nv lv) w w0 := .same hk0
  have h0 := h.kept hk0
  obtain ⟨v1, a1, b1⟩ := h0.own1
  obtain ⟨v2, a2, b2⟩ := h0.own2
  obtain ⟨v4, a4, b4⟩ := h0.now
  obtain ⟨v5, a5, b5⟩ := h0.sts
  have f : Fx (ow3 ov nv lv) (ow3 ov nv lv') w0 w1 := .of hk (fun x hx => .inl (.inr (.inr (by simpa using hx)))) (fun x hx => by
    rcases hx with hx | hx | hx
    · exact .inl (.inl hx)
    · exact .inl (.inr (.inl hx))
    · rcases hg x hx with h9 | h9
      · exact .inl (.inr (.inr h9))
      · exact .inr (by omega))
  refine ⟨⟨v1, own_keptT a1 hk (fun g hg2 hm => h.d13 g hg2 (by simpa using hm)), b1.fx f⟩, ⟨v2, own_keptT a2 hk (fun g hg2 hm => h.d23 g hg2 (by simpa using hm)), b2.fx f⟩, ⟨_, by rw [List.length_append]; exact hown, ((b3.fx f0).fx f).snoc (hv.fx f)⟩, ⟨v4, rd_fx a4 h0.sn f, b4.fx f⟩, ⟨v5, rd_fx a5 h0.ss f, b5.fx f⟩, fun a e => (h0.sn a e).fx f, fun a e => (h0.ss a e).fx f, h.d12, fun x hx hx2 => ?_, fun x hx hx2 => ?_⟩
  · rcases hg x hx2 with h9 | h9
    · exact h.d13 x hx h9
    · have := own_lt2 a1 hx; omega
  · rcases hg x hx2 with h9 | h9
    · exact h.d23 x hx h9
    · have := own_lt2 a2 hx; omega
theorem own_slice2 {base : Nat} {e : TypeId} {k n : Nat} {v : Value} {xs : List Value} (h : w.ownsRow base e k v n xs) : ∃ A c, v = .slice A n c ∧ Rd w k A n xs ∧ (A = none → n = 0) ∧ ∀ a, A = some a → v.ownBlock = some a.block := by
  rcases h.2 with ⟨rfl, rfl⟩ | ⟨g, cap, cur, rfl, _⟩
  · exact ⟨none, 0, rfl, ⟨h.1, fun h => absurd h (by omega)⟩, fun _ => rfl, fun a e => by cases e⟩
  · refine ⟨some ⟨g, 0, none⟩, cap, rfl, ⟨h.1, fun hn => ?_⟩, fun e => (by cases e), fun a e => (by injection e with e; subst e; rfl)⟩
    obtain ⟨g', c', hv, _, hl, _, _, hc, _⟩ := own_cellsT h hn
    injection hv with e1 e2 e3
    injection e1 with e1
    injection e1 with e1 _ _
    subst e1
    exact ⟨g, 0, rfl, hl, fun j hj => by rw [Nat.zero_add]; exact hc j hj⟩
/-- The level that was found is read next. -/
theorem AM.turn (h : AM te ts lim w ov nv lv An As out nx lt Ln Ls) : ∃ Bn cn Bs cs, nv = .slice Bn nx.length cn ∧ lv = .slice Bs lt.length cs ∧ AM te ts lim w ov (.slice none 0 0) (.slice none 0 0) Bn Bs out [] [] nx lt := by
  obtain ⟨v1, a1, b1⟩ := h.own1
  obtain ⟨v2, a2, b2⟩ := h.own2
  obtain ⟨v3, a3, b3⟩ := h.own3
  obtain ⟨Bn, cn, e2, r2, _, o2⟩ := own_slice2 a2
  obtain ⟨Bs, cs, e3, r3, _, o3⟩ := own_slice2 a3
  have f : Fx (ow3 ov nv lv) (ow3 ov (.slice none 0 0) (.slice none 0 0)) w w := .of (Kept.refl [] w) (by simp) (fun x hx => by
    rcases hx with hx | hx | hx
    · exact .inl (.inl hx)
    · cases hx
    · cases hx)
  refine ⟨Bn, cn, Bs, cs, e2, e3, ⟨⟨v1, a1, b1.fx f⟩, ⟨[], World.ownsRow_nil _ _ _ _, VlS.nil _ _⟩, ⟨[], World.ownsRow_nil _ _ _ _, Cs.nil _ _⟩, ⟨v2, r2, b2.fx f⟩, ⟨v3, r3, b3.fx f⟩, fun a e => ?_, fun a e => ?_, fun x _ h9 => by (cases h9), fun x _ h9 => by (cases h9), fun x h9 => by (cases h9)⟩⟩
  · have h8 := o2 a e
    refine ⟨own_lt2 a2 h8, fun h9 => ?_⟩
    rcases h9 with h9 | h9 | h9
    · exact h.d12 _ h9 h8
    · cases h9
    · cases h9
  · have h8 := o3 a e
    refine ⟨own_lt2 a3 h8, fun h9 => ?_⟩
    rcases h9 with h9 | h9 | h9
    · exact h.d13 _ h9 h8
    · cases h9
    · cases h9
/-- A path of the level. -/
theorem AM.row (h : AM te ts lim w ov nv lv An As out nx lt Ln Ls) {i : Nat} {l : List Int} (hi : Ln[i]? = some l) : ∃ b o A n c, An = some ⟨b, o, none⟩ ∧ SafeB (ow3 ov nv lv) w b ∧ w.cell? ⟨b, o + i, none⟩ = some (.slice A n c) ∧ SInP (ow3 ov nv lv) w A n c l := by
  obtain ⟨vs, hr, hv⟩ := h.now
  have hil : i < Ln.length := by
    rcases Nat.lt_or_ge i Ln.length with h9 | h9
    · exact h9
    · rw [List.getElem?_eq_none h9] at hi; cases hi
  obtain ⟨b, o, e, hl, hc⟩ := hr.2 (by omega)
  obtain ⟨v, h1, A, n, c, rfl, h2⟩ := hv.2 i l hi
  exact ⟨b, o, A, n, c, e, h.sn _ e, (hc i (by omega)).trans h1, h2⟩
/-- A state of the level. -/
theorem AM.st (h : AM te ts lim w ov nv lv An As out nx lt Ln Ls) {i : Nat} {x : Int × List Int} (hi : Ls[i]? = some x) : ∃ b o A n c, As = some ⟨b, o, none⟩ ∧ SafeB (ow3 ov nv lv) w b ∧ w.cell? ⟨b, o + i * 2, none⟩ = some (.int .i64 x.1) ∧ w.cell? ⟨b, o + i * 2 + 1, none⟩ = some (.slice A n c) ∧ SInP (ow3 ov nv lv) w A n c x.2.reverse := by
  obtain ⟨vs, hr, hv⟩ := h.sts
  have hil : i < Ls.length := by
    rcases Nat.lt_or_ge i Ls.length with h9 | h9
    · exact h9
    · rw [List.getElem?_eq_none h9] at hi; cases hi
  obtain ⟨b, o, e, hl, hc⟩ := hr.2 (by omega)
  obtain ⟨h0, v, h1, A, n, c, rfl, h2⟩ := hv.2 i x hi
  exact ⟨b, o, A, n, c, e, h.ss _ e, (hc (i * 2) (by omega)).trans h0, by rw [Nat.add_assoc]; exact (hc (i * 2 + 1) (by omega)).trans h1, h2⟩
/-- At the start one empty path is read. -/
theorem AM.start {b1 b2 : Nat} {a : Int} (h1 : Blk w b1 [.slice none 0 0]) (h2 : Blk w b2 [.int .i64 a, .slice none 0 0]) : AM te ts lim w (.slice none 0 0) (.slice none 0 0) (.slice none 0 0) (some ⟨b1, 0, none⟩) (some ⟨b2, 0, none⟩) [] [] [] [[]] [(a, [])] := by
  refine ⟨⟨[], World.ownsRow_nil _ _ _ _, VlS.nil _ _⟩, ⟨[], World.ownsRow_nil _ _ _ _, VlS.nil _ _⟩, ⟨[], World.ownsRow_nil _ _ _ _, Cs.nil _ _⟩, ⟨[.slice none 0 0], ⟨rfl, fun _ => ⟨b1, 0, rfl, h1.1, fun j _ => by rw [Nat.zero_add]; exact h1.2.1 j⟩⟩, ?_⟩, ⟨[.int .i64 a, .slice none 0 0], ⟨rfl, fun _ => ⟨b2, 0, rfl, h2.1, fun j _ => by rw [Nat.zero_add]; exact h2.2.1 j⟩⟩, ?_⟩, fun x e => ?_, fun x e => ?_, fun x h9 => by (cases h9), fun x h9 => by (cases h9), fun x h9 => by (cases h9)⟩
  · exact (VlS.nil _ _).snoc ⟨none, 0, 0, rfl, SInP.none _ _⟩
  · exact (Cs.nil _ _).snoc ⟨none, 0, 0, rfl, SInP.none _ _⟩
  · injection e with e; subst e
    exact ⟨h1.1, fun h9 => by rcases h9 with h9 | h9 | h9 <;> cases h9⟩
  · injection e with e; subst e
    exact ⟨h2.1, fun h9 => by rcases h9 with h9 | h9 | h9 <;> cases h9⟩
/-- The paths that were told, as they come back. -/
theorem AM.told (h : AM te ts lim w ov nv lv An As out nx lt Ln Ls) : ∃ A c, ov = .slice A out.length c ∧ (A = none → out.length = 0) ∧ (0 < out.length → ∃ b o, A = some ⟨b, o, none⟩ ∧ lim ≤ b ∧ b < w.heap.size ∧ ∀ (i : Nat) (l : List Int), out[i]? = some l → ∃ Ai ni ci, w.cell? ⟨b, o + i, none⟩ = some (.slice Ai ni ci) ∧ SIn w Ai ni ci l) := by
  obtain ⟨vs, a1, b1⟩ := h.own1
  obtain ⟨A, c, e, r, hn, ho⟩ := own_slice2 a1
  refine ⟨A, c, e, hn, fun h0 => ?_⟩
  obtain ⟨b, o, e, hl, hc⟩ := r.2 h0
  refine ⟨b, o, e, own_ge a1 (ho _ e), hl, fun i l hi => ?_⟩
  have hil : i < out.length := by
    rcases Nat.lt_or_ge i out.length with h9 | h9
    · exact h9
    · rw [List.getElem?_eq_none h9] at hi; cases hi
  obtain ⟨v, h1, Ai, ni, ci, rfl, h2⟩ := b1.2 i l hi
  exact ⟨Ai, ni, ci, (hc i (by omega)).trans h1, h2.sin⟩
end
end Go.Df
/- What Short gathers is the solution where all valid paths have been told. No program in sight. -/
namespace Go.Df
open Go.RowKit
namespace If
open Sp Go.Proofs.Ytffkikhknabddaa
def shStep (p : Pb) (s : (Nat → Bool) × (Nat → List Int)) (l : List Int) : (Nat → Bool) × (Nat → List Int) :=
  (fun x => if x = (endS p.es p.mn l).toNat then true else s.1 x, fun x => if x = (endS p.es p.mn l).toNat then joinF (s.2 x) (alongF p l) else s.2 x)
/-- What is reached and what holds at the ends of some paths. -/
def shS (p : Pb) (L : List (List Int)) : (Nat → Bool) × (Nat → List Int) := L.foldl (shStep p) (fun _ => false, fun _ => [])
theorem shS_snoc (p : Pb) (L : List (List Int)) (l : List Int) : shS p (L ++ [l]) = shStep p (shS p L) l := by
  unfold shS
  rw [List.foldl_append]
  rfl
theorem shR_gen (p : Pb) (x : Nat) : ∀ (L : List (List Int)) (s : (Nat → Bool) × (Nat → List Int)), (L.foldl (shStep p) s).1 x = true ↔ s.1 x = true ∨ ∃ l ∈ L, (endS p.es p.mn l).toNat = x
  | [], s => by simp
  | l :: L, s => by
    rw [List.foldl_cons, shR_gen p x L]
    unfold shStep
    by_cases e : x = (endS p.es p.mn l).toNat
    · simp [e]
    · have e2 : ¬ (endS p.es p.mn l).toNat = x := fun h => e h.symm
      simp [e, e2]
theorem shF_gen (p : Pb) (x : Nat) (y : Int) : ∀ (L : List (List Int)) (s : (Nat → Bool) × (Nat → List Int)), y ∈ (L.foldl (shStep p) s).2 x ↔ y ∈ s.2 x ∨ ∃ l ∈ L, (endS p.es p.mn l).toNat = x ∧ y ∈ alongF p l
  | [], s => by simp
  | l :: L, s => by
    rw [List.foldl_cons, shF_gen p x y L]
    unfold shStep
    by_cases e : x = (endS p.es p.mn l).toNat
    · simp [e, joinF_mem, or_assoc]
    · have e2 : ¬ (endS p.es p.mn l).toNat = x := fun h => e h.symm
      simp [e, e2]
theorem shA_gen (p : Pb) (x : Nat) : ∀ (L : List (List Int)) (s : (Nat → Bool) × (Nat → List Int)), (s.2 x).Pairwise (· < ·) → ((L.foldl (shStep p) s).2 x).Pairwise (· < ·)
  | [], s, h => h
  | l :: L, s, h => by
    rw [List.foldl_cons]
    refine shA_gen p x L _ ?_
    unfold shStep
    by_cases e : x = (endS p.es p.mn l).toNat
    · simp only [if_pos e]; exact ascF_asc _
    · simp only [if_neg e]; exact h
theorem shS_R (p : Pb) (L : List (List Int)) (x : Nat) : (shS p L).1 x = true ↔ ∃ l ∈ L, (endS p.es p.mn l).toNat = x := by
  unfold shS; rw [shR_gen]; simp
theorem shS_F (p : Pb) (L : List (List Int)) (x : Nat) (y : Int) : y ∈ (shS p L).2 x ↔ ∃ l ∈ L, (endS p.es p.mn l).toNat = x ∧ y ∈ alongF p l := by
  unfold shS; rw [shF_gen]; simp
theorem shS_asc (p : Pb) (L : List (List Int)) (x : Nat) : ((shS p L).2 x).Pairwise (· < ·) := shA_gen p x L _ List.Pairwise.nil
theorem run_in {es : List Ed} : ∀ (path : List Int) {a : Int} {cs : List Int}, (runS es a cs path).1 = 0 → ∀ j, j < path.length → 0 ≤ gi path j ∧ gi path j < es.length
  | [], _, _, _, j, hj => absurd hj (by simp)
  | k :: r, a, cs, h, j, hj => by
    have h1 : (stepS es a cs k).1 = 0 := Decidable.byContradiction fun h0 => by rw [runS_bad2 h0] at h; exact h0 h
    rw [runS_ok2 h1] at h
    cases j with
    | zero => exact (step_at h1).2
    | succ j =>
      have h2 := run_in r h j (by simpa using hj)
      simpa [gi] using h2
theorem shS_rng {p : Pb} (ho : Ok p) {L : List (List Int)} (hs : ∀ l ∈ L, (runS p.es p.mn [] l).1 = 0) (x : Nat) : ∀ y ∈ (shS p L).2 x, 1 ≤ y ∧ y < p.F := fun y hy => by
  obtain ⟨l, hl, -, h2⟩ := (shS_F p L x y).1 hy
  exact alongF_rng ho (run_in l (hs l hl)) y h2
theorem shS_len {p : Pb} (ho : Ok p) {L : List (List Int)} (hs : ∀ l ∈ L, (runS p.es p.mn [] l).1 = 0) (x : Nat) : (((shS p L).2 x).length : Int) ≤ p.F := by
  have h9 := ho.f1
  rcases asc_len _ 0 p.F (shS_asc p L x) (fun y hy => by have := shS_rng ho hs x y hy; omega) with h | h
  · rw [h]; omega
  · omega
theorem endS_main {p : Pb} (ho : Ok p) {l : List Int} (h : (runS p.es p.mn [] l).1 = 0) : ∃ n st, runS p.es p.mn [] l = (0, n, st) ∧ n = endS p.es p.mn l ∧ IZ p n st ∧ ∀ d, Al p l d → IV p n d st := by
  have e : runS p.es p.mn [] l = (0, (runS p.es p.mn [] l).2.1, (runS p.es p.mn [] l).2.2) := by rw [← h]
  obtain ⟨h1, h2⟩ := path_iv ho _ l _ _ rfl e
  exact ⟨_, _, e, runS_end l h, h1, h2⟩
theorem endS_rng {p : Pb} (ho : Ok p) {l : List Int} (h : (runS p.es p.mn [] l).1 = 0) : 0 ≤ endS p.es p.mn l ∧ endS p.es p.mn l < p.ns.length := by
  by_cases h0 : l.length = 0
  · obtain rfl := List.length_eq_zero_iff.1 h0
    have := main_in (sup_parts ho.sup).2.2.1
    exact ⟨this.1, this.2.1⟩
  · rw [endS_last l _ (by omega)]
    have h1 := run_in l h (l.length - 1) (by omega)
    have := sup_edge ho.sup (k := (gi l (l.length - 1)).toNat) (by omega)
    omega
open Classical in
theorem solF_mem {p : Pb} (ho : Ok p) {x : Nat} {y : Int} : y ∈ solF p x ↔ ∃ a d : Nat, PE p a x d ∧ d ≠ 0 ∧ y = d := by
  unfold solF ofNats
  rw [List.mem_map]
  constructor
  · rintro ⟨d, hd, rfl⟩
    rw [List.mem_filter, Bool.and_eq_true] at hd
    obtain ⟨a, ha⟩ := of_decide_eq_true hd.2.2
    exact ⟨a, d, ha, by simpa using hd.2.1, rfl⟩
  · rintro ⟨a, d, ha, h0, rfl⟩
    have hr := ha.rng ho
    refine ⟨d, ?_, rfl⟩
    rw [List.mem_filter, List.mem_range, Bool.and_eq_true]
    exact ⟨by omega, by simpa using h0, decide_eq_true ⟨a, ha⟩⟩
open Classical in
theorem solF_asc (p : Pb) (x : Nat) : (solF p x).Pairwise (· < ·) := by
  unfold solF ofNats
  rw [List.pairwise_map]
  refine List.Pairwise.imp ?_ (List.Pairwise.filter _ List.pairwise_lt_range)
  intro a b h
  omega
/-- Where all valid paths have been told, what is gathered is the solution. -/
theorem sh_sol {p : Pb} (ho : Ok p) {L : List (List Int)} (hs : ∀ l ∈ L, (runS p.es p.mn [] l).1 = 0) (ha : ∀ l, (runS p.es p.mn [] l).1 = 0 → l ∈ L) (x : Nat) : (shS p L).1 x = solR p x ∧ (shS p L).2 x = solF p x := by
  constructor
  · refine solR_eq ?_
    rw [shS_R]
    constructor
    · rintro ⟨l, hl, rfl⟩
      obtain ⟨n, st, -, h2, ⟨s, h3, -⟩, -⟩ := endS_main ho (hs l hl)
      rw [← h2]
      exact h3
    · intro h
      obtain ⟨path, st, h1, -⟩ := h.path ho
      have h1 : runS p.es p.mn [] path = (0, (x : Int), st) := h1
      have h0 : (runS p.es p.mn [] path).1 = 0 := by rw [h1]
      refine ⟨path, ha path h0, ?_⟩
      rw [← runS_end path h0, h1]
      rfl
  · refine asc_eq (shS_asc p L x) (solF_asc p x) fun y => ?_
    rw [shS_F, solF_mem ho]
    constructor
    · rintro ⟨l, hl, rfl, hy⟩
      obtain ⟨n, st, -, h2, -, h3⟩ := endS_main ho (hs l hl)
      have h5 := alongF_rng ho (run_in l (hs l hl)) y hy
      obtain ⟨s, a, h6, -⟩ := h3 y (.inr hy)
      rw [h2] at h6
      exact ⟨a, y.toNat, h6, by omega, by omega⟩
    · rintro ⟨a, d, h, h0, rfl⟩
      obtain ⟨path, st, h1, h2⟩ := h.path ho
      have h1 : runS p.es p.mn [] path = (0, (x : Int), st) := h1
      have h9 : (runS p.es p.mn [] path).1 = 0 := by rw [h1]
      refine ⟨path, ha path h9, ?_, ?_⟩
      · rw [← runS_end path h9, h1]
        rfl
      · rcases h2 with h2 | h2
        · exact absurd h2 (by omega)
        · exact h2
/-- Where paths with one edge more tell no more, the solution is the meet over the valid paths. -/
theorem meet_sol {p : Pb} (ho : Ok p) {count n : Nat} (h : (itI p.es count p.mn (n + 1)).1.length < count) (he : (itI p.es count p.mn n).1.length = (itI p.es count p.mn (n + 1)).1.length) (x : Nat) :
    (shS p (itI p.es count p.mn n).1).1 x = solR p x ∧ (shS p (itI p.es count p.mn n).1).2 x = solF p x :=
  sh_sol ho (fun l hl => itI_out_sound n l hl) (fun l hl => itI_all h he l hl) x
open Classical in
/-- What holds along a valid path is in the solution. -/
theorem walk_holds {p : Pb} (ho : Ok p) {N : Nat} (hN : p.ns.length = N) {l : List Int} (h : (runS p.es p.mn [] l).1 = 0) {d : Int} (hd : d = 0 ∨ d ∈ alongF p l) : holdsS ((List.range N).map (solR p)) ((List.range N).map (solF p)) (endS p.es p.mn l) d = true := by
  obtain ⟨n, st, -, h2, ⟨s, h3, -⟩, h4⟩ := endS_main ho h
  obtain ⟨s', a, h6, -⟩ := h4 d hd
  rw [h2] at h3 h6
  have h0 := endS_rng ho h
  have hlt : (endS p.es p.mn l).toNat < N := by omega
  unfold holdsS
  rw [if_neg (by omega)]
  by_cases e : d = 0
  · rw [if_pos e]
    have h9 : true = solR p (endS p.es p.mn l).toNat := solR_eq ⟨fun _ => h3, fun _ => rfl⟩
    simp [gbl, hlt, ← h9]
  · rw [if_neg e]
    have h5 : 1 ≤ d := by
      rcases hd with hd | hd
      · exact absurd hd e
      · exact (alongF_rng ho (run_in l h) d hd).1
    have h9 : d ∈ solF p (endS p.es p.mn l).toNat := (solF_mem ho).2 ⟨a, d.toNat, h6, by omega, by omega⟩
    simp [gil, hlt, h9]
end If
end Go.Df
/- The lists of Short in memory. No program in sight. -/
namespace Go.Df
open Go.RowKit
namespace If
open Sp Go.Proofs.Ytffkikhknabddaa
/-- A store at a cell leaves the cells that hold other values. -/
theorem set_apart {w : World} {b o b' o' : Nat} {u u' v : Value} (h : w.cell? ⟨b, o, none⟩ = some u) (h' : w.cell? ⟨b', o', none⟩ = some u') (hn : u ≠ u') : (w.setCell ⟨b, o, none⟩ v).cell? ⟨b', o', none⟩ = some u' := by
  rw [set_other, h']
  by_cases e : b = b'
  · by_cases e2 : o = o'
    · subst e e2
      rw [h] at h'
      exact absurd (Option.some.inj h') hn
    · exact .inr e2
  · exact .inl e
theorem ints_apart2 {w : World} {b o : Nat} {u v : Value} {A : Option Addr} {n : Nat} {l : List Int} (h : w.cell? ⟨b, o, none⟩ = some u) (hn : ∀ x, u ≠ .int .i64 x) (hi : Ints w A n l) : Ints (w.setCell ⟨b, o, none⟩ v) A n l :=
  ⟨hi.1, fun h0 => by
    obtain ⟨b', o', e, hl, hc⟩ := hi.2 h0
    exact ⟨b', o', e, by simpa [World.setCell] using hl, fun i hi2 => set_apart h (hc i hi2) (hn _)⟩⟩
/-- What is reached and what holds, in the lists of a solution that is being gathered. -/
structure ShM (w : World) (ga gb N : Nat) (s : (Nat → Bool) × (Nat → List Int)) : Prop where
  la : ga < w.heap.size
  lb : gb < w.heap.size
  ne : ga ≠ gb
  ca : ∀ x, x < N → w.cell? ⟨ga, x, none⟩ = some (.bool (s.1 x))
  cb : ∀ x, x < N → ∃ Ai ni ci, w.cell? ⟨gb, x, none⟩ = some (.slice Ai ni ci) ∧ Ints w Ai ni (s.2 x) ∧ ni ≤ ci
  fa : ∀ i, w.frozen? ⟨ga, i, none⟩ = false
  fb : ∀ i, w.frozen? ⟨gb, i, none⟩ = false
section
variable {w w1 : World} {ga gb N : Nat} {s : (Nat → Bool) × (Nat → List Int)}
theorem ShM.kept (h : ShM w ga gb N s) (hk : Kept [] w w1) : ShM w1 ga gb N s :=
  ⟨Nat.lt_of_lt_of_le h.la hk.size, Nat.lt_of_lt_of_le h.lb hk.size, h.ne, fun x hx => (hk.cell ga x h.la (by simp)).trans (h.ca x hx), fun x hx => by
    obtain ⟨Ai, ni, ci, h1, h2, h3⟩ := h.cb x hx
    exact ⟨Ai, ni, ci, (hk.cell gb x h.lb (by simp)).trans h1, ints_keptT h2 hk (by simp), h3⟩,
    fun i => (hk.frozen ga i h.la (by simp)).trans (h.fa i), fun i => (hk.frozen gb i h.lb (by simp)).trans (h.fb i)⟩
theorem ShM.setR (h : ShM w ga gb N s) {n : Nat} (hn : n < N) : ShM (w.setCell ⟨ga, n, none⟩ (.bool true)) ga gb N (fun x => if x = n then true else s.1 x, s.2) := by
  have h0 := h.ca n hn
  refine ⟨by simpa [World.setCell] using h.la, by simpa [World.setCell] using h.lb, h.ne, fun x hx => ?_, fun x hx => ?_, fun i => by simpa using h.fa i, fun i => by simpa using h.fb i⟩
  · by_cases e : x = n
    · subst e; rw [set_same h0]; simp
    · rw [set_other (.inr (fun e2 => e e2.symm)), h.ca x hx]; simp [e]
  · obtain ⟨Ai, ni, ci, h1, h2, h3⟩ := h.cb x hx
    exact ⟨Ai, ni, ci, set_apart h0 h1 (by simp), ints_apart2 h0 (by simp) h2, h3⟩
theorem ShM.setF (h : ShM w ga gb N s) {n : Nat} (hn : n < N) {A : Option Addr} {m c : Nat} {l : List Int} (hi : Ints w A m l) (hm : m ≤ c) : ShM (w.setCell ⟨gb, n, none⟩ (.slice A m c)) ga gb N (s.1, fun x => if x = n then l else s.2 x) := by
  obtain ⟨Aj, nj, cj, h0, -, -⟩ := h.cb n hn
  refine ⟨by simpa [World.setCell] using h.la, by simpa [World.setCell] using h.lb, h.ne, fun x hx => ?_, fun x hx => ?_, fun i => by simpa using h.fa i, fun i => by simpa using h.fb i⟩
  · exact set_apart h0 (h.ca x hx) (by simp)
  · by_cases e : x = n
    · subst e
      exact ⟨A, m, c, set_same h0, by simpa using ints_apart2 h0 (by simp) hi, hm⟩
    · obtain ⟨Ai, ni, ci, h1, h2, h3⟩ := h.cb x hx
      exact ⟨Ai, ni, ci, by rw [set_other (.inr (fun e2 => e e2.symm))]; exact h1, by simpa [e] using ints_apart2 h0 (by simp) h2, h3⟩
theorem ShM.bls (h : ShM w ga gb N s) : Bls w (some ⟨ga, 0, none⟩) N ((List.range N).map s.1) :=
  ⟨by simp, fun _ => ⟨ga, 0, rfl, h.la, fun i hi => by rw [Nat.zero_add, h.ca i hi]; simp [gbl, hi]⟩⟩
theorem ShM.intsR (h : ShM w ga gb N s) (hl : ∀ x, x < N → (s.2 x).length ≤ 9223372036854775807) : IntsR w (some ⟨gb, 0, none⟩) N ((List.range N).map s.2) :=
  ⟨by simp, fun _ => ⟨gb, 0, rfl, h.lb, fun i hi => by
    obtain ⟨Ai, ni, ci, h1, h2, h3⟩ := h.cb i hi
    refine ⟨Ai, ni, ci, by rw [Nat.zero_add]; exact h1, ?_, by have := h2.1; have := hl i hi; omega⟩
    have e9 : gil ((List.range N).map s.2) i = s.2 i := by simp [gil, hi]
    rw [e9]
    exact h2⟩⟩
end
/-- Paths in memory, beyond lim. -/
def LRA (lim : Nat) (w : World) (A : Option Addr) (L : List (List Int)) : Prop :=
  0 < L.length → ∃ b o, A = some ⟨b, o, none⟩ ∧ lim ≤ b ∧ b < w.heap.size ∧ ∀ (i : Nat) (l : List Int), L[i]? = some l → ∃ Ai ni ci, w.cell? ⟨b, o + i, none⟩ = some (.slice Ai ni ci) ∧ Ints w Ai ni l
theorem LRA.kept {lim : Nat} {w w1 : World} {A : Option Addr} {L : List (List Int)} (h : LRA lim w A L) (hk : Kept [] w w1) : LRA lim w1 A L := fun h0 => by
  obtain ⟨b, o, e, hge, hl, hc⟩ := h h0
  refine ⟨b, o, e, hge, Nat.lt_of_lt_of_le hl hk.size, fun i l hi => ?_⟩
  obtain ⟨Ai, ni, ci, h1, h2⟩ := hc i l hi
  exact ⟨Ai, ni, ci, (hk.cell b _ hl (by simp)).trans h1, ints_keptT h2 hk (by simp)⟩
theorem LRA.set {lim g k : Nat} {w : World} {A : Option Addr} {L : List (List Int)} {u v : Value} (h : LRA lim w A L) (hg : g < lim) (hu : w.cell? ⟨g, k, none⟩ = some u) (hn : ∀ x, u ≠ .int .i64 x) : LRA lim (w.setCell ⟨g, k, none⟩ v) A L := fun h0 => by
  obtain ⟨b, o, e, hge, hl, hc⟩ := h h0
  refine ⟨b, o, e, hge, by simpa [World.setCell] using hl, fun i l hi => ?_⟩
  obtain ⟨Ai, ni, ci, h1, h2⟩ := hc i l hi
  exact ⟨Ai, ni, ci, by rw [set_other (.inl (by omega))]; exact h1, ints_apart2 hu hn h2⟩
theorem ShM.setO {w : World} {ga gb N b k : Nat} {s : (Nat → Bool) × (Nat → List Int)} {u v : Value} (h : ShM w ga gb N s) (hu : w.cell? ⟨b, k, none⟩ = some u) (hn : ∀ x, u ≠ .int .i64 x) (ha : b ≠ ga) (hb : b ≠ gb) : ShM (w.setCell ⟨b, k, none⟩ v) ga gb N s := by
  refine ⟨by simpa [World.setCell] using h.la, by simpa [World.setCell] using h.lb, h.ne, fun x hx => ?_, fun x hx => ?_, fun i => by simpa using h.fa i, fun i => by simpa using h.fb i⟩
  · rw [set_other (.inl ha)]; exact h.ca x hx
  · obtain ⟨Ai, ni, ci, h1, h2, h3⟩ := h.cb x hx
    exact ⟨Ai, ni, ci, by rw [set_other (.inl hb)]; exact h1, ints_apart2 hu hn h2, h3⟩
/-- The empty lists of a solution, new. -/
theorem ShM.start {base N ca cb : Nat} {ta tb : TypeId} {w : World} {A B : Option Addr} (h0 : 0 < N) (hA : w.ownsRow base ta 1 (.slice A N ca) N (List.replicate N (.bool false))) (hB : w.ownsRow base tb 1 (.slice B N cb) N (List.replicate N (.slice none 0 0))) :
    ∃ ga gb, A = some ⟨ga, 0, none⟩ ∧ B = some ⟨gb, 0, none⟩ ∧ base ≤ ga ∧ base ≤ gb ∧ ShM w ga gb N (fun _ => false, fun _ => []) := by
  obtain ⟨ga, c1, e1, g1, l1, -, -, x1, f1⟩ := own_cellsT hA h0
  obtain ⟨gb, c2, e2, g2, l2, -, -, x2, f2⟩ := own_cellsT hB h0
  injection e1 with e1 _ _
  injection e2 with e2 _ _
  refine ⟨ga, gb, e1, e2, g1, g2, l1, l2, ?_, fun x hx => ?_, fun x hx => ?_, f1, f2⟩
  · rintro rfl
    have h1 := x1 0 (by omega)
    have h2 := x2 0 (by omega)
    rw [h1] at h2
    simp [h0] at h2
  · rw [x1 x (by omega)]; simp [hx]
  · exact ⟨none, 0, 0, by rw [x2 x (by omega)]; simp [hx], Ints.empty _ _, Nat.le_refl _⟩
theorem alongF_asc (p : Pb) (path : List Int) : (alongF p path).Pairwise (· < ·) := by
  rcases List.eq_nil_or_concat path with e | ⟨q, k, e⟩
  · subst e; exact ascF_asc _
  · rw [e, List.concat_eq_append, alongF_snoc]; exact ascF_asc _
theorem alongF_short {p : Pb} (ho : Ok p) {l : List Int} (h : (runS p.es p.mn [] l).1 = 0) : ((alongF p l).length : Int) ≤ p.F := by
  have h9 := ho.f1
  rcases asc_len _ 0 p.F (alongF_asc p l) (fun y hy => by have := alongF_rng ho (run_in l h) y hy; omega) with h8 | h8
  · rw [h8]; omega
  · omega
end If
end Go.Df
