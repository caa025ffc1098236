/- Texts: Pa Pb Ma Mc Sj. -/
import Derived.Test.YtooejoajojanjaaGreatDoorSx01
import Derived.Lib.ItoaNum
import Derived.Maps.Own
import Derived.Maps.OwnSet
import Derived.Maps.Views
import Derived.DeepKeys4
import Derived.MapViews
namespace Go.Df
open Go.RowKit
namespace If
open Sp
/-- A summary: the function, what holds at its exit and throw nodes. -/
structure Su where
  f : Int
  x : List Pr
  y : List Pr
deriving DecidableEq
def gS (L : List Su) (i : Nat) : Su := L.getD i ⟨0, [], []⟩
def fnErr (L : List Su) (i : Nat) : Int := if (gS L i).f < 0 ∨ 256 ≤ (gS L i).f then 4 else if 0 < i ∧ (gS L i).f ≤ (gS L (i - 1)).f then 13 else 0
def lsErr (F : Int) (l : List Pr) : Int := if 8192 < l.length then 3 else fe (prErr F l) 0 l.length
def suErr (F : Int) (L : List Su) (i : Nat) : Int := if fnErr L i ≠ 0 then fnErr L i else if lsErr F (gS L i).x ≠ 0 then lsErr F (gS L i).x else lsErr F (gS L i).y
/-- What Check answers. -/
def sumErr (F : Int) (L : List Su) : Int := if F < 1 ∨ 1024 < F then 4 else if 256 < L.length then 3 else fe (suErr F L) 0 L.length
abbrev Bs := List UInt8
def kwF : Bs := [102, 117, 110, 99]
def kwE : Bs := [101, 120, 105, 116]
def kwT : Bs := [116, 104, 114, 111, 119]
def ln1 (w : Bs) (a : Int) : Bs := w ++ 32 :: (Lib.itoa a ++ [10])
def ln2 (w : Bs) (p : Pr) : Bs := w ++ 32 :: (Lib.itoa p.i ++ 32 :: (Lib.itoa p.o ++ [10]))
def txS (u : Su) : Bs := ln1 kwF u.f ++ u.x.flatMap (ln2 kwE) ++ u.y.flatMap (ln2 kwT)
/-- The text of summaries. -/
def txt (L : List Su) : Bs := L.flatMap txS
def isD (c : UInt8) : Bool := decide (48 ≤ c) && decide (c ≤ 57)
def valB (w : Bs) : Nat := w.foldl (fun n c => 10 * n + (c.toNat - 48)) 0
/-- The number that a word is. -/
def numB (w : Bs) : Option Nat := if w = [] ∨ 9 < w.length ∨ (1 < w.length ∧ w.head? = some 48) ∨ w.all isD = false then none else some (valB w)
/-- The words of a line. -/
def splW : Bs → List Bs
  | [] => [[]]
  | c :: r => if c = 32 then [] :: splW r else match splW r with
    | [] => [[c]]
    | w :: ws => (c :: w) :: ws
/-- The last summary with one more pair. -/
def addX (L : List Su) (p : Pr) : List Su := L.dropLast ++ [⟨(gS L (L.length - 1)).f, (gS L (L.length - 1)).x ++ [p], (gS L (L.length - 1)).y⟩]
def addY (L : List Su) (p : Pr) : List Su := L.dropLast ++ [⟨(gS L (L.length - 1)).f, (gS L (L.length - 1)).x, (gS L (L.length - 1)).y ++ [p]⟩]
/-- What a line adds: an error, or 0 with the list. -/
def linW (L : List Su) (ws : List Bs) : Int × List Su :=
  match ws with
  | [w0, w1] => match numB w1 with
    | some n => if w0 = kwF then (if sumErr 1024 (L ++ [⟨n, [], []⟩]) = 0 then (0, L ++ [⟨n, [], []⟩]) else (sumErr 1024 (L ++ [⟨n, [], []⟩]), [])) else (2, [])
    | none => (2, [])
  | [w0, w1, w2] => match numB w1, numB w2 with
    | some a, some b =>
      if L = [] then (2, [])
      else if w0 = kwT then (if sumErr 1024 (addY L ⟨a, b⟩) = 0 then (0, addY L ⟨a, b⟩) else (sumErr 1024 (addY L ⟨a, b⟩), []))
      else if w0 = kwE then (if (gS L (L.length - 1)).y ≠ [] then (13, []) else if sumErr 1024 (addX L ⟨a, b⟩) = 0 then (0, addX L ⟨a, b⟩) else (sumErr 1024 (addX L ⟨a, b⟩), []))
      else (2, [])
    | _, _ => (2, [])
  | _ => (2, [])
def linS (L : List Su) (s : Bs) : Int × List Su := linW L (splW s)
/-- Up to the first newline, and behind it. -/
def cutN : Bs → Option (Bs × Bs)
  | [] => none
  | c :: r => if c = 10 then some ([], r) else (cutN r).map fun p => (c :: p.1, p.2)
/-- The lines of a text, from line n on: the list, or the line and the error. -/
def parR : Nat → Nat → List Su → Bs → List Su × Int × Int
  | 0, _, L, _ => (L, 0, 0)
  | k + 1, n, L, s => if s = [] then (L, 0, 0) else match cutN s with
    | none => ([], n, 21)
    | some (a, r) => if (linS L a).1 ≠ 0 then ([], n, (linS L a).1) else parR k (n + 1) (linS L a).2 r
/-- What Parse answers. -/
def parS (s : Bs) : List Su × Int × Int := if 65536 < s.length then ([], 0, 3) else parR (s.length + 1) 1 [] s
/-- What Text answers. -/
def texS (L : List Su) : Bs × Int := if sumErr 1024 L ≠ 0 then ([], sumErr 1024 L) else if 65536 < (txt L).length then ([], 3) else (txt L, 0)
theorem cutN_len : ∀ {s a r : Bs}, cutN s = some (a, r) → s = a ++ 10 :: r
  | [], _, _, h => by cases h
  | c :: s, a, r, h => by
    unfold cutN at h
    split at h
    · rename_i hc
      cases h
      simp [hc]
    · cases hs : cutN s with
      | none => rw [hs] at h; cases h
      | some p =>
        rw [hs] at h
        obtain ⟨a', r'⟩ := p
        simp at h
        obtain ⟨rfl, rfl⟩ := h
        have := cutN_len hs
        simp [this]
theorem cutN_app : ∀ {a r : Bs}, (∀ c ∈ a, c ≠ 10) → cutN (a ++ 10 :: r) = some (a, r)
  | [], _, _ => by simp [cutN]
  | c :: a, r, h => by
    have hc : c ≠ 10 := h c (by simp)
    have := cutN_app (a := a) (r := r) (fun x hx => h x (List.mem_cons_of_mem _ hx))
    simp [cutN, hc, this]
/-- How many lines are read does not matter, if there is room. -/
theorem parR_fuel : ∀ (k j n : Nat) (L : List Su) (s : Bs), s.length < k → s.length < j → parR k n L s = parR j n L s
  | 0, _, _, _, _, h, _ => absurd h (by omega)
  | _, 0, _, _, _, _, h => absurd h (by omega)
  | k + 1, j + 1, n, L, s, hk, hj => by
    unfold parR
    split
    · rfl
    · cases hc : cutN s with
      | none => rfl
      | some p =>
        obtain ⟨a, r⟩ := p
        have hl := congrArg List.length (cutN_len hc)
        simp at hl
        dsimp only
        split
        · rfl
        · exact parR_fuel k j (n + 1) _ r (by omega) (by omega)
/-! ### Numbers -/
theorem dec_ne (u : Nat) : Lib.decDigits u ≠ [] := by
  unfold Lib.decDigits
  split <;> simp
theorem u8_dig {d : Nat} (h : d < 10) : (UInt8.ofNat (48 + d)).toNat = 48 + d := by simp; omega
theorem isD_of {d : Nat} (h : d < 10) : isD (UInt8.ofNat (48 + d)) = true := by
  have e : ∀ d : Fin 10, isD (UInt8.ofNat (48 + d.1)) = true := by decide
  exact e ⟨d, h⟩
theorem dec_all (u : Nat) : (Lib.decDigits u).all isD = true := by
  induction u using Nat.strongRecOn with
  | _ u ih =>
    unfold Lib.decDigits
    split
    · rename_i h
      rw [List.all_cons, List.all_nil, isD_of h]
      rfl
    · rename_i h
      rw [List.all_append, ih (u / 10) (by omega), List.all_cons, List.all_nil, isD_of (show u % 10 < 10 by omega)]
      rfl
theorem val_snoc (w : Bs) (c : UInt8) : valB (w ++ [c]) = 10 * valB w + (c.toNat - 48) := by simp [valB]
theorem val_dec (u : Nat) : valB (Lib.decDigits u) = u := by
  induction u using Nat.strongRecOn with
  | _ u ih =>
    unfold Lib.decDigits
    split
    · rename_i h
      show 10 * 0 + _ = _
      rw [u8_dig h]; omega
    · rename_i h
      rw [val_snoc, ih (u / 10) (by omega), u8_dig (show u % 10 < 10 by omega)]
      omega
theorem dec_len {u k : Nat} (h : u < 10 ^ (k + 1)) : (Lib.decDigits u).length ≤ k + 1 := by
  induction k generalizing u with
  | zero =>
    unfold Lib.decDigits
    rw [dif_pos (by simpa using h)]
    simp
  | succ k ih =>
    unfold Lib.decDigits
    split
    · simp
    · have h9 : u / 10 < 10 ^ (k + 1) := by
        rw [Nat.pow_succ] at h
        omega
      have := ih h9
      simp
      omega
theorem dec_head (u : Nat) (h : 10 ≤ u) : (Lib.decDigits u).head? ≠ some 48 := by
  induction u using Nat.strongRecOn with
  | _ u ih =>
    unfold Lib.decDigits
    rw [dif_neg (by omega)]
    by_cases h9 : u / 10 < 10
    · unfold Lib.decDigits
      rw [dif_pos h9]
      have e : ∀ d : Fin 10, d.1 ≠ 0 → UInt8.ofNat (48 + d.1) ≠ 48 := by decide
      show some (UInt8.ofNat (48 + u / 10)) ≠ some 48
      exact fun h0 => e ⟨u / 10, h9⟩ (by show u / 10 ≠ 0; omega) (Option.some.inj h0)
    · have := ih (u / 10) (by omega) (by omega)
      rw [List.head?_append]
      cases hh : (Lib.decDigits (u / 10)).head? with
      | none => exact absurd (by simpa using hh) (dec_ne (u / 10))
      | some c => rw [hh] at this; simpa using this
/-- The digits of a number are read as that number. -/
theorem num_dec {u : Nat} (h : u < 1000000000) : numB (Lib.decDigits u) = some u := by
  unfold numB
  rw [if_neg, val_dec]
  rintro (h1 | h1 | ⟨h1, h2⟩ | h1)
  · exact dec_ne u h1
  · have := dec_len (u := u) (k := 8) (by simpa using h)
    omega
  · by_cases h9 : 10 ≤ u
    · exact dec_head u h9 h2
    · unfold Lib.decDigits at h1
      rw [dif_pos (by omega)] at h1
      simp at h1
  · rw [dec_all] at h1; cases h1
theorem isD_ge {c : UInt8} (h : isD c = true) : 48 ≤ c.toNat ∧ c.toNat ≤ 57 := by
  unfold isD at h
  simp at h
  exact ⟨by have := h.1; exact UInt8.le_iff_toNat_le.1 this, by have := h.2; exact UInt8.le_iff_toNat_le.1 this⟩
theorem dig_back {c : UInt8} (h : isD c = true) : UInt8.ofNat (48 + (c.toNat - 48)) = c := by
  have h1 := isD_ge h
  have e : 48 + (c.toNat - 48) = c.toNat := by omega
  rw [e]
  simp
/-- What is read without a zero ahead are the digits of its value. -/
theorem dec_val : ∀ (w : Bs), w ≠ [] → w.all isD = true → (1 < w.length → w.head? ≠ some 48) → Lib.decDigits (valB w) = w := by
  intro w
  induction hn : w.length generalizing w with
  | zero => intro h _ _; exact absurd (List.length_eq_zero_iff.1 hn) h
  | succ n ih =>
    intro hne hall hh
    have hs : w = w.dropLast ++ [w.getLast hne] := (List.dropLast_concat_getLast hne).symm
    obtain ⟨v, c, rfl⟩ : ∃ v c, w = v ++ [c] := ⟨_, _, hs⟩
    have hall2 : v.all isD = true ∧ isD c = true := by simpa using hall
    have hc := isD_ge hall2.2
    rw [val_snoc]
    by_cases hv : v = []
    · subst hv
      unfold Lib.decDigits
      rw [dif_pos (by show 10 * 0 + _ < 10; omega)]
      show [UInt8.ofNat (48 + (10 * 0 + (c.toNat - 48)))] = _
      rw [Nat.mul_zero, Nat.zero_add, dig_back hall2.2]
      rfl
    · have hlv : v.length = n := by simpa using hn
      have hv1 : 0 < v.length := List.length_pos_iff.2 hv
      have hhv : (v ++ [c]).head? = v.head? := by cases v with | nil => exact absurd rfl hv | cons a v => rfl
      have h1 := hh (by simp; omega)
      rw [hhv] at h1
      have h2 := ih v hlv hv hall2.1 (fun _ => h1)
      have hpos : 0 < valB v := by
        rcases Nat.eq_zero_or_pos (valB v) with h0 | h0
        · rw [h0] at h2
          unfold Lib.decDigits at h2
          rw [dif_pos (by omega)] at h2
          rw [← h2] at h1
          exact absurd rfl h1
        · exact h0
      unfold Lib.decDigits
      rw [dif_neg (by omega), show (10 * valB v + (c.toNat - 48)) / 10 = valB v by omega, show (10 * valB v + (c.toNat - 48)) % 10 = c.toNat - 48 by omega, h2, dig_back hall2.2]
theorem num_some {w : Bs} {n : Nat} (h : numB w = some n) : Lib.decDigits n = w := by
  unfold numB at h
  split at h
  · cases h
  · rename_i h9
    have e := Option.some.inj h
    subst e
    exact dec_val w (fun e => h9 (.inl e)) (by
      cases ha : w.all isD with
      | true => rfl
      | false => exact absurd (.inr (.inr (.inr ha))) h9) (fun h1 h2 => h9 (.inr (.inr (.inl ⟨h1, h2⟩))))
theorem itoa_nat (n : Nat) : Lib.itoa (n : Int) = Lib.decDigits n := by
  unfold Lib.itoa
  rw [if_neg (by omega), Int.toNat_natCast]
end If
end Go.Df
namespace Go.Df
open Go.RowKit
namespace If
open Sp
theorem fe_iff {e : Nat → Int} {n : Nat} : fe e 0 n = 0 ↔ ∀ i, i < n → e i = 0 := ⟨fun h i hi => fe_zero n 0 h i (Nat.zero_le _) (by omega), fun h => fe_ok n 0 fun i _ hi => h i (by omega)⟩
/-- The first error, where all places but the last one are without. -/
theorem fe_last {e : Nat → Int} {n : Nat} (h : ∀ i, i < n → e i = 0) : fe e 0 (n + 1) = e n := by
  by_cases h0 : e n = 0
  · rw [h0]; exact fe_iff.2 fun i hi => by by_cases e : i = n; (· rw [e]; exact h0); exact h i (by omega)
  · exact fe_hit h (by omega) rfl h0
theorem ls_ok {F : Int} {l : List Pr} : lsErr F l = 0 ↔ l.length ≤ 8192 ∧ ∀ j, j < l.length → prErr F l j = 0 := by
  unfold lsErr
  split
  · rename_i h; exact ⟨fun h9 => (by cases h9), fun h9 => (by omega)⟩
  · rw [fe_iff]; exact ⟨fun h9 => ⟨by omega, h9⟩, fun h9 => h9.2⟩
theorem su_ok {F : Int} {L : List Su} {i : Nat} : suErr F L i = 0 ↔ fnErr L i = 0 ∧ lsErr F (gS L i).x = 0 ∧ lsErr F (gS L i).y = 0 := by
  unfold suErr
  by_cases h1 : fnErr L i = 0
  · rw [if_neg (not_not_intro h1)]
    by_cases h2 : lsErr F (gS L i).x = 0
    · rw [if_neg (not_not_intro h2)]; simp [h1, h2]
    · rw [if_pos h2]; simp [h2]
  · rw [if_pos h1]; simp [h1]
theorem sum_ok {F : Int} {L : List Su} : sumErr F L = 0 ↔ (1 ≤ F ∧ F ≤ 1024) ∧ L.length ≤ 256 ∧ ∀ i, i < L.length → fnErr L i = 0 ∧ lsErr F (gS L i).x = 0 ∧ lsErr F (gS L i).y = 0 := by
  unfold sumErr
  split
  · rename_i h; exact ⟨fun h9 => (by cases h9), fun h9 => (by omega)⟩
  · split
    · rename_i h; exact ⟨fun h9 => (by cases h9), fun h9 => (by omega)⟩
    · rw [fe_iff]
      exact ⟨fun h9 => ⟨by omega, by omega, fun i hi => su_ok.1 (h9 i hi)⟩, fun h9 i hi => su_ok.2 (h9.2.2 i hi)⟩
theorem gS_app {M R : List Su} {i : Nat} (h : i < M.length) : gS (M ++ R) i = gS M i := by
  unfold gS
  simp [List.getD, List.getElem?_append_left h]
theorem gS_at {M R : List Su} {u : Su} : gS (M ++ u :: R) M.length = u := by
  unfold gS
  simp [List.getD]
theorem gp_app {a b : List Pr} {j : Nat} (h : j < a.length) : gp (a ++ b) j = gp a j := by
  rw [gp_lt h, gp_lt (by simp; omega)]
  exact List.getElem_append_left h
theorem pr_app {F : Int} {a b : List Pr} {j : Nat} (h : j < a.length) : prErr F (a ++ b) j = prErr F a j := by
  unfold prErr
  rw [gp_app h, gp_app (show j - 1 < a.length by omega)]
theorem ls_pre {F : Int} {a b : List Pr} (h : lsErr F (a ++ b) = 0) : lsErr F a = 0 := by
  obtain ⟨h1, h2⟩ := ls_ok.1 h
  rw [List.length_append] at h1 h2
  exact ls_ok.2 ⟨by omega, fun j hj => by rw [← pr_app hj]; exact h2 j (by omega)⟩
theorem fn_app {M R : List Su} {i : Nat} (h : i < M.length) : fnErr (M ++ R) i = fnErr M i := by
  unfold fnErr
  rw [gS_app h, gS_app (show i - 1 < M.length by omega)]
/-- Up to a summary that holds less. -/
theorem sum_pre {F : Int} {M R : List Su} {u : Su} {a b a' b' : List Pr} (hx : u.x = a ++ a') (hy : u.y = b ++ b') (h : sumErr F (M ++ u :: R) = 0) : sumErr F (M ++ [⟨u.f, a, b⟩]) = 0 := by
  obtain ⟨h1, h2, h3⟩ := sum_ok.1 h
  rw [List.length_append, List.length_cons] at h2 h3
  refine sum_ok.2 ⟨h1, by simp; omega, fun i hi => ?_⟩
  rw [List.length_append, List.length_singleton] at hi
  by_cases hm : i < M.length
  · have h9 := h3 i (by omega)
    rw [fn_app hm, gS_app hm] at h9
    rw [fn_app hm, gS_app hm]
    exact h9
  · obtain rfl : i = M.length := by omega
    have h9 := h3 M.length (by omega)
    rw [gS_at] at h9
    rw [gS_at]
    refine ⟨?_, ls_pre (by rw [← hx]; exact h9.2.1), ls_pre (by rw [← hy]; exact h9.2.2)⟩
    have h8 := h9.1
    unfold fnErr at h8 ⊢
    rw [gS_at] at h8 ⊢
    by_cases h0 : 0 < M.length
    · rw [gS_app (show M.length - 1 < M.length by omega)] at h8 ⊢
      exact h8
    · have e : ¬ (0 < M.length ∧ u.f ≤ (gS (M ++ u :: R) (M.length - 1)).f) := fun h => h0 h.1
      have e2 : ¬ (0 < M.length ∧ (⟨u.f, a, b⟩ : Su).f ≤ (gS (M ++ [⟨u.f, a, b⟩]) (M.length - 1)).f) := fun h => h0 h.1
      rw [if_neg e] at h8
      rw [if_neg e2]
      exact h8
theorem sum_fn {F : Int} {M R : List Su} {u : Su} (h : sumErr F (M ++ u :: R) = 0) : 0 ≤ u.f ∧ u.f < 256 := by
  have h9 := ((sum_ok.1 h).2.2 M.length (by simp)).1
  unfold fnErr at h9
  rw [gS_at] at h9
  split at h9
  · cases h9
  · omega
theorem ls_rng {F : Int} {l : List Pr} (h : lsErr F l = 0) {p : Pr} (hp : p ∈ l) : (0 ≤ p.i ∧ p.i < F) ∧ 0 ≤ p.o ∧ p.o < F := by
  obtain ⟨j, hj, rfl⟩ := mem_gp hp
  have h9 := (ls_ok.1 h).2 j hj
  unfold prErr at h9
  split at h9
  · cases h9
  · omega
/-! ### Words -/
theorem spl_one : ∀ {w : Bs}, (∀ c ∈ w, c ≠ 32) → splW w = [w]
  | [], _ => rfl
  | c :: w, h => by
    have h1 : c ≠ 32 := h c (by simp)
    rw [splW, if_neg h1, spl_one (fun x hx => h x (List.mem_cons_of_mem _ hx))]
theorem spl_app : ∀ {w r : Bs}, (∀ c ∈ w, c ≠ 32) → splW (w ++ 32 :: r) = w :: splW r
  | [], r, _ => by simp [splW]
  | c :: w, r, h => by
    have h1 : c ≠ 32 := h c (by simp)
    rw [List.cons_append, splW, if_neg h1, spl_app (fun x hx => h x (List.mem_cons_of_mem _ hx))]
theorem spl_ne : ∀ (s : Bs), splW s ≠ []
  | [] => by simp [splW]
  | c :: s => by
    rw [splW]
    split
    · simp
    · split <;> simp
/-- The words of a line, joined again. -/
def joiW : List Bs → Bs
  | [] => []
  | [w] => w
  | w :: v :: ws => w ++ 32 :: joiW (v :: ws)
theorem joi_spl : ∀ (s : Bs), joiW (splW s) = s
  | [] => rfl
  | c :: s => by
    rw [splW]
    split
    · rename_i hc
      cases hs : splW s with
      | nil => exact absurd hs (spl_ne s)
      | cons w ws =>
        have := joi_spl s
        rw [hs] at this
        simp [joiW, this, hc]
    · cases hs : splW s with
      | nil => exact absurd hs (spl_ne s)
      | cons w ws =>
        have := joi_spl s
        rw [hs] at this
        cases ws with
        | nil => simpa [joiW] using this
        | cons v ws => simpa [joiW] using this
theorem dig_no {c : UInt8} {k : UInt8} (h : isD c = true) (hk : isD k = false) : c ≠ k := fun e => by rw [e, hk] at h; cases h
theorem itoa_no {n : Int} (h : 0 ≤ n) {k : UInt8} (hk : isD k = false) : ∀ c ∈ Lib.itoa n, c ≠ k := fun c hc => by
  obtain ⟨m, rfl⟩ := Int.eq_ofNat_of_zero_le h
  rw [itoa_nat] at hc
  exact dig_no (List.all_eq_true.1 (dec_all m) c hc) hk
theorem num_itoa {n : Int} (h : 0 ≤ n) (h2 : n < 1000000000) : numB (Lib.itoa n) = some n.toNat := by
  obtain ⟨m, rfl⟩ := Int.eq_ofNat_of_zero_le h
  rw [itoa_nat, Int.toNat_natCast]
  exact num_dec (by omega)
/-- A line with one number, with two. -/
def bd1 (w : Bs) (a : Int) : Bs := w ++ 32 :: Lib.itoa a
def bd2 (w : Bs) (p : Pr) : Bs := w ++ 32 :: (Lib.itoa p.i ++ 32 :: Lib.itoa p.o)
theorem ln1_eq (w : Bs) (a : Int) : ln1 w a = bd1 w a ++ [10] := by simp [ln1, bd1]
theorem ln2_eq (w : Bs) (p : Pr) : ln2 w p = bd2 w p ++ [10] := by simp [ln2, bd2]
theorem spl_bd1 {w : Bs} {a : Int} (hw : ∀ c ∈ w, c ≠ 32) (ha : 0 ≤ a) : splW (bd1 w a) = [w, Lib.itoa a] := by
  rw [bd1, spl_app hw, spl_one (itoa_no ha (by decide))]
theorem spl_bd2 {w : Bs} {p : Pr} (hw : ∀ c ∈ w, c ≠ 32) (h1 : 0 ≤ p.i) (h2 : 0 ≤ p.o) : splW (bd2 w p) = [w, Lib.itoa p.i, Lib.itoa p.o] := by
  rw [bd2, spl_app hw, spl_app (itoa_no h1 (by decide)), spl_one (itoa_no h2 (by decide))]
theorem no10_bd1 {w : Bs} {a : Int} (hw : ∀ c ∈ w, c ≠ 10) (ha : 0 ≤ a) : ∀ c ∈ bd1 w a, c ≠ 10 := fun c hc => by
  unfold bd1 at hc
  rcases List.mem_append.1 hc with h | h
  · exact hw c h
  · rcases List.mem_cons.1 h with h | h
    · rw [h]; decide
    · exact itoa_no ha (by decide) c h
theorem no10_bd2 {w : Bs} {p : Pr} (hw : ∀ c ∈ w, c ≠ 10) (h1 : 0 ≤ p.i) (h2 : 0 ≤ p.o) : ∀ c ∈ bd2 w p, c ≠ 10 := fun c hc => by
  unfold bd2 at hc
  rcases List.mem_append.1 hc with h | h
  · exact hw c h
  · rcases List.mem_cons.1 h with h | h
    · rw [h]; decide
    · rcases List.mem_append.1 h with h | h
      · exact itoa_no h1 (by decide) c h
      · rcases List.mem_cons.1 h with h | h
        · rw [h]; decide
        · exact itoa_no h2 (by decide) c h
theorem kw_no : (∀ c ∈ kwF, c ≠ 32 ∧ c ≠ 10) ∧ (∀ c ∈ kwE, c ≠ 32 ∧ c ≠ 10) ∧ ∀ c ∈ kwT, c ≠ 32 ∧ c ≠ 10 := by decide
theorem kw_ne : kwE ≠ kwT ∧ kwE ≠ kwF ∧ kwT ≠ kwF := by decide
theorem gS_last (M : List Su) (u : Su) : gS (M ++ [u]) ((M ++ [u]).length - 1) = u := by
  rw [List.length_append, List.length_singleton, Nat.add_sub_cancel]
  exact gS_at
/-- What a line of the text adds. -/
theorem lin_f {M : List Su} {a : Int} (h0 : 0 ≤ a) (h1 : a < 256) (hs : sumErr 1024 (M ++ [⟨a, [], []⟩]) = 0) : linS M (bd1 kwF a) = (0, M ++ [⟨a, [], []⟩]) := by
  unfold linS
  rw [spl_bd1 (fun c hc => (kw_no.1 c hc).1) h0]
  unfold linW
  dsimp only
  rw [num_itoa h0 (by omega)]
  dsimp only
  rw [Int.toNat_of_nonneg h0, if_pos rfl, if_pos hs]
theorem lin_x {M : List Su} {f : Int} {x : List Pr} {p : Pr} (h1 : 0 ≤ p.i ∧ p.i < 1024) (h2 : 0 ≤ p.o ∧ p.o < 1024) (hs : sumErr 1024 (M ++ [⟨f, x ++ [p], []⟩]) = 0) : linS (M ++ [⟨f, x, []⟩]) (bd2 kwE p) = (0, M ++ [⟨f, x ++ [p], []⟩]) := by
  have e : addX (M ++ [⟨f, x, []⟩]) p = M ++ [⟨f, x ++ [p], []⟩] := by
    unfold addX
    rw [gS_last, List.dropLast_concat]
  unfold linS
  rw [spl_bd2 (fun c hc => (kw_no.2.1 c hc).1) h1.1 h2.1]
  unfold linW
  dsimp only
  rw [num_itoa h1.1 (by omega), num_itoa h2.1 (by omega)]
  dsimp only
  rw [Int.toNat_of_nonneg h1.1, Int.toNat_of_nonneg h2.1, if_neg (by simp), if_neg kw_ne.1, if_pos rfl, gS_last, if_neg (by simp)]
  rw [show (⟨p.i, p.o⟩ : Pr) = p from rfl, e, if_pos hs]
theorem lin_y {M : List Su} {f : Int} {x y : List Pr} {p : Pr} (h1 : 0 ≤ p.i ∧ p.i < 1024) (h2 : 0 ≤ p.o ∧ p.o < 1024) (hs : sumErr 1024 (M ++ [⟨f, x, y ++ [p]⟩]) = 0) : linS (M ++ [⟨f, x, y⟩]) (bd2 kwT p) = (0, M ++ [⟨f, x, y ++ [p]⟩]) := by
  have e : addY (M ++ [⟨f, x, y⟩]) p = M ++ [⟨f, x, y ++ [p]⟩] := by
    unfold addY
    rw [gS_last, List.dropLast_concat]
  unfold linS
  rw [spl_bd2 (fun c hc => (kw_no.2.2 c hc).1) h1.1 h2.1]
  unfold linW
  dsimp only
  rw [num_itoa h1.1 (by omega), num_itoa h2.1 (by omega)]
  dsimp only
  rw [Int.toNat_of_nonneg h1.1, Int.toNat_of_nonneg h2.1, if_neg (by simp), if_pos rfl]
  rw [show (⟨p.i, p.o⟩ : Pr) = p from rfl, e, if_pos hs]
/-- Reading one line that is all right. -/
theorem par_step {n : Nat} {M M' : List Su} {a r : Bs} (h10 : ∀ c ∈ a, c ≠ 10) (hl : linS M a = (0, M')) {k : Nat} (hk : (a ++ 10 :: r).length < k) : parR k n M (a ++ 10 :: r) = parR (r.length + 1) (n + 1) M' r := by
  obtain ⟨k, rfl⟩ : ∃ j, k = j + 1 := ⟨k - 1, by omega⟩
  rw [parR, if_neg (by simp), cutN_app h10]
  dsimp only
  rw [hl]
  simp only [ne_eq, not_true_eq_false, if_false]
  exact parR_fuel k _ (n + 1) M' r (by simp at hk; omega) (by omega)
theorem par_x : ∀ (q x : List Pr) {M : List Su} {f : Int} {n : Nat} {r : Bs} {k : Nat}, sumErr 1024 (M ++ [⟨f, x ++ q, []⟩]) = 0 → (q.flatMap (ln2 kwE) ++ r).length < k → ∃ n', parR k n (M ++ [⟨f, x, []⟩]) (q.flatMap (ln2 kwE) ++ r) = parR (r.length + 1) n' (M ++ [⟨f, x ++ q, []⟩]) r
  | [], x, M, f, n, r, k, _, hk => ⟨n, by rw [List.append_nil]; exact parR_fuel k _ n _ r (by simpa using hk) (by omega)⟩
  | p :: q, x, M, f, n, r, k, hs, hk => by
    have hp := ls_rng (((sum_ok.1 hs).2.2 M.length (by simp)).2.1) (p := p) (by rw [gS_at]; simp)
    have e : x ++ p :: q = (x ++ [p]) ++ q := by simp
    rw [e] at hs ⊢
    have hs2 : sumErr 1024 (M ++ [⟨f, x ++ [p], []⟩]) = 0 := sum_pre (u := ⟨f, x ++ [p] ++ q, []⟩) (a' := q) (b' := []) rfl rfl hs
    rw [List.flatMap_cons, ln2_eq, List.append_assoc, List.append_assoc, List.singleton_append] at hk ⊢
    rw [par_step (no10_bd2 (fun c hc => (kw_no.2.1 c hc).2) hp.1.1 hp.2.1) (lin_x hp.1 hp.2 hs2) hk]
    exact par_x q (x ++ [p]) hs (by omega)
theorem par_y : ∀ (q y : List Pr) {M : List Su} {f : Int} {x : List Pr} {n : Nat} {r : Bs} {k : Nat}, sumErr 1024 (M ++ [⟨f, x, y ++ q⟩]) = 0 → (q.flatMap (ln2 kwT) ++ r).length < k → ∃ n', parR k n (M ++ [⟨f, x, y⟩]) (q.flatMap (ln2 kwT) ++ r) = parR (r.length + 1) n' (M ++ [⟨f, x, y ++ q⟩]) r
  | [], y, M, f, x, n, r, k, _, hk => ⟨n, by rw [List.append_nil]; exact parR_fuel k _ n _ r (by simpa using hk) (by omega)⟩
  | p :: q, y, M, f, x, n, r, k, hs, hk => by
    have hp := ls_rng (((sum_ok.1 hs).2.2 M.length (by simp)).2.2) (p := p) (by rw [gS_at]; simp)
    have e : y ++ p :: q = (y ++ [p]) ++ q := by simp
    rw [e] at hs ⊢
    have hs2 : sumErr 1024 (M ++ [⟨f, x, y ++ [p]⟩]) = 0 := sum_pre (u := ⟨f, x, y ++ [p] ++ q⟩) (a := x) (a' := []) (b' := q) (by simp) rfl hs
    rw [List.flatMap_cons, ln2_eq, List.append_assoc, List.append_assoc, List.singleton_append] at hk ⊢
    rw [par_step (no10_bd2 (fun c hc => (kw_no.2.2 c hc).2) hp.1.1 hp.2.1) (lin_y hp.1 hp.2 hs2) hk]
    exact par_y q (y ++ [p]) hs (by omega)
/-- The text of a valid list is read as the list. -/
theorem par_txt : ∀ (L M : List Su) {n k : Nat}, sumErr 1024 (M ++ L) = 0 → (txt L).length < k → parR k n M (txt L) = (M ++ L, 0, 0)
  | [], M, n, k, _, hk => by
    obtain ⟨k, rfl⟩ : ∃ j, k = j + 1 := ⟨k - 1, by omega⟩
    simp [parR, txt]
  | u :: L, M, n, k, hs, hk => by
    have hf := sum_fn hs
    have s0 : sumErr 1024 (M ++ [⟨u.f, [], []⟩]) = 0 := sum_pre (a' := u.x) (b' := u.y) rfl rfl hs
    have s1 : sumErr 1024 (M ++ [⟨u.f, u.x, []⟩]) = 0 := sum_pre (a := u.x) (a' := []) (b' := u.y) (by simp) rfl hs
    have s2 : sumErr 1024 (M ++ [⟨u.f, u.x, u.y⟩]) = 0 := sum_pre (a := u.x) (a' := []) (b := u.y) (b' := []) (by simp) (by simp) hs
    have e : txt (u :: L) = bd1 kwF u.f ++ 10 :: (u.x.flatMap (ln2 kwE) ++ (u.y.flatMap (ln2 kwT) ++ txt L)) := by
      show txS u ++ txt L = _
      rw [txS, ln1_eq]
      simp
    rw [e] at hk ⊢
    rw [par_step (no10_bd1 (fun c hc => (kw_no.1 c hc).2) hf.1) (lin_f hf.1 hf.2 s0) hk]
    obtain ⟨n1, e1⟩ := par_x u.x [] (M := M) (f := u.f) (n := n + 1) (r := u.y.flatMap (ln2 kwT) ++ txt L) (k := (u.x.flatMap (ln2 kwE) ++ (u.y.flatMap (ln2 kwT) ++ txt L)).length + 1) (by rw [List.nil_append]; exact s1) (by omega)
    rw [e1, List.nil_append]
    obtain ⟨n2, e2⟩ := par_y u.y [] (M := M) (f := u.f) (n := n1) (x := u.x) (r := txt L) (k := (u.y.flatMap (ln2 kwT) ++ txt L).length + 1) (by rw [List.nil_append]; exact s2) (by omega)
    rw [e2, List.nil_append]
    have := par_txt L (M ++ [u]) (n := n2) (k := (txt L).length + 1) (by simpa using hs) (by omega)
    rw [this]
    simp
theorem par_tex {L : List Su} (h : (texS L).2 = 0) : parS (texS L).1 = (L, 0, 0) := by
  unfold texS at h ⊢
  split at h
  · rename_i h0; exact absurd h h0
  · rename_i h0
    rw [if_neg h0]
    split at h
    · cases h
    · rename_i h1
      rw [if_neg h1]
      unfold parS
      rw [if_neg h1]
      exact par_txt L [] (by simpa using h0) (Nat.lt_succ_self _)
/-! ### What is read is what was written -/
theorem txt_app (M L : List Su) : txt (M ++ L) = txt M ++ txt L := by simp [txt]
theorem lin_back {M M' : List Su} {s : Bs} (h : linS M s = (0, M')) : txt M' = txt M ++ (s ++ [10]) ∧ sumErr 1024 M' = 0 := by
  unfold linS at h
  have hj := joi_spl s
  generalize splW s = ws at h hj
  unfold linW at h
  split at h
  · rename_i w0 w1
    cases h1 : numB w1 with
    | none => rw [h1] at h; simp at h
    | some n =>
      rw [h1] at h
      dsimp only at h
      split at h
      · rename_i hw
        split at h
        · rename_i hs
          have e : M' = M ++ [⟨n, [], []⟩] := by simpa using (congrArg Prod.snd h).symm
          subst e
          refine ⟨?_, hs⟩
          rw [txt_app, ← hj]
          have : Lib.itoa (n : Int) = w1 := by rw [itoa_nat]; exact num_some h1
          simp [txt, txS, ln1, joiW, this, hw]
        · rename_i hs
          exact absurd (congrArg Prod.fst h) hs
      · simp at h
  · rename_i w0 w1 w2
    cases h1 : numB w1 with
    | none => rw [h1] at h; simp at h
    | some a =>
      cases h2 : numB w2 with
      | none => rw [h1, h2] at h; simp at h
      | some b =>
        rw [h1, h2] at h
        dsimp only at h
        have ea : Lib.itoa (a : Int) = w1 := by rw [itoa_nat]; exact num_some h1
        have eb : Lib.itoa (b : Int) = w2 := by rw [itoa_nat]; exact num_some h2
        split at h
        · simp at h
        · rename_i hM
          obtain ⟨K, u, rfl⟩ : ∃ K u, M = K ++ [u] := ⟨_, _, (List.dropLast_concat_getLast hM).symm⟩
          obtain ⟨f, x, y⟩ := u
          split at h
          · rename_i hw
            split at h
            · rename_i hs
              have e : M' = addY (K ++ [⟨f, x, y⟩]) ⟨a, b⟩ := by simpa using (congrArg Prod.snd h).symm
              subst e
              refine ⟨?_, hs⟩
              unfold addY
              rw [gS_last, List.dropLast_concat, txt_app, txt_app, ← hj]
              simp [txt, txS, ln2, joiW, ea, eb, hw]
            · rename_i hs
              exact absurd (congrArg Prod.fst h) hs
          · split at h
            · rename_i hw
              split at h
              · simp at h
              · rename_i hy
                split at h
                · rename_i hs
                  have e : M' = addX (K ++ [⟨f, x, y⟩]) ⟨a, b⟩ := by simpa using (congrArg Prod.snd h).symm
                  subst e
                  rw [gS_last] at hy
                  have hy : y = [] := by simpa using hy
                  subst hy
                  refine ⟨?_, hs⟩
                  unfold addX
                  rw [gS_last, List.dropLast_concat, txt_app, txt_app, ← hj]
                  simp [txt, txS, ln2, joiW, ea, eb, hw]
                · rename_i hs
                  exact absurd (congrArg Prod.fst h) hs
            · simp at h
  · simp at h
theorem par_back : ∀ (k n : Nat) (M : List Su) (s : Bs) {L : List Su} {m : Int}, s.length < k → sumErr 1024 M = 0 → parR k n M s = (L, m, 0) → txt L = txt M ++ s ∧ sumErr 1024 L = 0 ∧ m = 0
  | 0, _, _, _, _, _, h, _, _ => absurd h (by omega)
  | k + 1, n, M, s, L, m, hk, hs, h => by
    rw [parR] at h
    split at h
    · rename_i h0
      subst h0
      cases h
      exact ⟨by simp, hs, rfl⟩
    · cases hc : cutN s with
      | none => rw [hc] at h; simp at h
      | some p =>
        obtain ⟨a, r⟩ := p
        rw [hc] at h
        dsimp only at h
        have hl := cutN_len hc
        split at h
        · rename_i h0
          exact absurd (congrArg (fun z => z.2.2) h) h0
        · rename_i h0
          obtain ⟨e1, e2⟩ := lin_back (M := M) (M' := (linS M a).2) (s := a) (Prod.ext (by simpa using h0) rfl)
          obtain ⟨g1, g2, g3⟩ := par_back k (n + 1) _ r (by rw [hl] at hk; simp at hk; omega) e2 h
          refine ⟨?_, g2, g3⟩
          rw [g1, e1, hl]
          simp
theorem sum_nil : sumErr 1024 [] = 0 := by decide
theorem tex_par {s : Bs} {L : List Su} {m : Int} (h : parS s = (L, m, 0)) : texS L = (s, 0) ∧ m = 0 := by
  unfold parS at h
  split at h
  · simp at h
  · rename_i h0
    obtain ⟨h1, h2, h3⟩ := par_back _ 1 [] s (by omega) sum_nil h
    have h1 : txt L = s := by simpa [txt] using h1
    refine ⟨?_, h3⟩
    unfold texS
    rw [if_neg (by simpa using h2), h1, if_neg h0]
end If
end Go.Df
namespace Go.Df
open Go.RowKit Go.Maps Go.ChangeMaps
/-- Block b is a map of at most n entries; at each key its element, or z, is what f says. -/
def MapV (P : Program) (k e : TypeId) (z : Lit) (w : World) (b n : Nat) (f : Value → Lit) : Prop :=
  ∃ D : DataW Unit, w.ownsMap P k (plainElem P e) b n D ∧ ∀ key kl, keyOf P k key = some kl → D.atKey kl (.lit z) = .lit (f key)
theorem MapV.made (P : Program) (k e : TypeId) (z : Lit) (w : World) (b : Nat) (hb : b = w.heap.size) : MapV P k e z (w.alloc (.map #[] 0)) b 0 (fun _ => z) := by
  subst hb
  exact ⟨_, World.ownsMap_made w P k _, fun _ _ _ => rfl⟩
theorem MapV.mono {P : Program} {k e : TypeId} {z : Lit} {w : World} {b n n' : Nat} {f : Value → Lit} (h : MapV P k e z w b n f) (hn : n ≤ n') : MapV P k e z w b n' f :=
  let ⟨D, h1, h2⟩ := h; ⟨D, h1.mono hn, h2⟩
theorem MapV.lt {P : Program} {k e : TypeId} {z : Lit} {w : World} {b n : Nat} {f : Value → Lit} (h : MapV P k e z w b n f) : b < w.heap.size :=
  let ⟨_, h1, _⟩ := h; h1.lt
theorem MapV.ext {P : Program} {k e : TypeId} {z : Lit} {w : World} {b n : Nat} {f g : Value → Lit} (h : MapV P k e z w b n f) (hg : ∀ key kl, keyOf P k key = some kl → f key = g key) : MapV P k e z w b n g :=
  let ⟨D, h1, h2⟩ := h; ⟨D, h1, fun key kl hk => by rw [h2 key kl hk, hg key kl hk]⟩
theorem MapV.kept {P : Program} {k e : TypeId} {z : Lit} {w w' : World} {b n : Nat} {f : Value → Lit} {X : List Nat} (h : MapV P k e z w b n f) (hk : Kept X w w') (hX : b ∉ X) : MapV P k e z w' b n f := by
  have hlt := h.lt
  obtain ⟨D, ⟨es, clock, h1, h2⟩, h3⟩ := h
  exact ⟨D, ⟨es, clock, (hk.block b hlt hX).trans h1, h2⟩, h3⟩
theorem plainElem_bool_inv {P : Program} {e : TypeId} (he : P.underlying e = some .bool) {v : Value} {z : DataW Unit × List MemPlace} (h : plainElem P e v = some z) : ∃ a, v = .bool a ∧ z = (.lit (.bool a), []) := by
  unfold plainElem at h
  rw [he] at h
  split at h
  · cases h; exact ⟨_, rfl, rfl⟩
  all_goals simp_all
theorem MapV.look_bool {P : Program} {k e t : TypeId} {w : World} {b n : Nat} {f : Value → Lit} (h : MapV P k e (.bool false) w b n f) (K : Keyed P k) (ht : P.underlying t = some (.map k e)) (he : P.underlying e = some .bool) (hz : (zeroValue e).run P w = .ok (.bool false) w)
    {key : Value} {kl : Lit} (hkey : keyOf P k key = some kl) {c : Bool} (hc : f key = .bool c) : (Instr.lookup t (.map (some b)) key false).run P w = .ok (.bool c) w := by
  obtain ⟨D, h1, h2⟩ := h
  obtain ⟨v, ps, hrun, hv⟩ := h1.lookup K ht hz (plainElem_bool he false) hkey
  obtain ⟨a, rfl, ha⟩ := plainElem_bool_inv he hv
  have h3 := h2 key kl hkey
  simp only [Prod.mk.injEq] at ha
  rw [ha.1, hc] at h3
  cases h3
  exact hrun
theorem MapV.store {P : Program} {k e t : TypeId} {z : Lit} {w : World} {b n : Nat} {f : Value → Lit} (h : MapV P k e z w b n f) (K : Keyed P k) (ht : P.underlying t = some (.map k e)) (hn : n < maxLen)
    {key val : Value} {kl d : Lit} (hkey : keyOf P k key = some kl) (hval : plainElem (H := Unit) P e val = some (.lit d, [])) (g : Value → Lit) (g1 : g key = d) (g2 : ∀ x, x ≠ key → g x = f x) :
    ∃ w', (Instr.mapUpdate t (.map (some b)) key val).run P w = .ok () w' ∧ MapV P k e z w' b (n + 1) g ∧ Kept [b] w w' := by
  obtain ⟨D, h1, h2⟩ := h
  have hm := h1.isMap
  obtain ⟨w', hrun, h3, hg⟩ := h1.update K ht hn hkey hval
  refine ⟨w', hrun, ⟨_, h3, fun key' kl' hk' => ?_⟩, ⟨hg.1, hg.2, hg.3, hg.4, fun j hj hx => hg.5 j hj (by simp at hx; intro hh; exact hx (by simpa using hh))⟩⟩
  by_cases hkk : key' = key
  · subst hkk
    obtain rfl : kl' = kl := by rw [hkey] at hk'; exact (Option.some.inj hk').symm
    rw [atKey_put_same hm (K.key hkey), g1]
  · have hne : kl' ≠ kl := fun hh => hkk (K.inj (by rw [← hh]; exact hk') hkey)
    rw [atKey_put_other hne, g2 _ hkk]
    exact h2 key' kl' hk'
theorem wpList_store_map {P : Program} (w : World) {ops : Array Oper} {rest : List Oper} {o : Oper} {a : Act} {Q : Exit → Act → World → Prop}
    (hg : o.guard = none) (m x v : Operand) (t : TypeId) (hop : o.op = Op.mapUpdate t m x v)
    (k e : TypeId) (K : Keyed P k) (ht : P.underlying t = some (.map k e)) (z : Lit) (b n : Nat) (f : Value → Lit)
    (hm : a.eval m = .map (some b)) (hown : MapV P k e z w b n f) (hn : n < maxLen) (key val : Value) (kl d : Lit) (hx : a.eval x = key) (hv : a.eval v = val) (hkey : keyOf P k key = some kl)
    (hval : plainElem (H := Unit) P e val = some (.lit d, [])) (g : Value → Lit) (g1 : g key = d) (g2 : ∀ x, x ≠ key → g x = f x)
    (hK : ∀ w', MapV P k e z w' b (n + 1) g → Kept [b] w w' → wpList P ops Q rest (a.put o.dst undef) w') :
    wpList P ops Q (o :: rest) a w := by
  refine wpList_plain hg fun K' hK' => ?_
  obtain ⟨w', hrun, r1, r2⟩ := hown.store K ht hn hkey hval g g1 g2
  unfold Oper.wp
  simp [execOp, hop, hm, hx, hv, hrun, Result.andThen]
  exact hK' _ _ (hK w' r1 r2)
/-- What a struct type's fields are, in short. -/
def fieldsOf (P : Program) (k : TypeId) : List (String × TypeId × Nat) := match P.underlying k with | some (.struct fs) => fs.toList.map (fun f => (f.name, f.type, f.offset)) | _ => []
/-- An element that is kept as it is. -/
def tokElem (v : Value) : Option (DataW Value × List MemPlace) := some (.held v, [])
/-- A key's element is what f says, or z; and no element that is there is z. -/
def Reads (P : Program) (k : TypeId) (z : Value) (D : DataW Value) (f : Value → Value) : Prop :=
  ∀ key kl, keyOf P k key = some kl → D.atKey kl (.held z) = .held (f key) ∧ ((∀ zd, D.atKey kl zd = .held (f key)) → f key ≠ z)
/-- Block b is a map of at most n entries; at each key its element, or z, is what f says; no element is z. -/
def MapT (P : Program) (k : TypeId) (z : Value) (w : World) (b n : Nat) (f : Value → Value) : Prop :=
  ∃ D : DataW Value, w.ownsMap P k tokElem b n D ∧ Reads P k z D f
theorem Reads.two {P : Program} {k : TypeId} {z : Value} {D : DataW Value} {f g : Value → Value} (h : Reads P k z D f) (hg : ∀ key, f key = g key) : Reads P k z D g := by
  have e : f = g := funext hg
  subst e
  exact h
theorem MapT.made (P : Program) (k : TypeId) (z : Value) (w : World) (b : Nat) (hb : b = w.heap.size) : MapT P k z (w.alloc (.map #[] 0)) b 0 (fun _ => z) := by
  subst hb
  refine ⟨_, World.ownsMap_made w P k _, fun _ _ _ => ⟨rfl, fun h => ?_⟩⟩
  have h9 := h (.lit (.bool true))
  cases h9
theorem MapT.mono {P : Program} {k : TypeId} {z : Value} {w : World} {b n n' : Nat} {f : Value → Value} (h : MapT P k z w b n f) (hn : n ≤ n') : MapT P k z w b n' f :=
  let ⟨D, h1, h2⟩ := h; ⟨D, h1.mono hn, h2⟩
theorem MapT.lt {P : Program} {k : TypeId} {z : Value} {w : World} {b n : Nat} {f : Value → Value} (h : MapT P k z w b n f) : b < w.heap.size :=
  let ⟨_, h1, _⟩ := h; h1.lt
theorem MapT.obj {P : Program} {k : TypeId} {z : Value} {w : World} {b n : Nat} {f : Value → Value} (h : MapT P k z w b n f) : ∃ es clock, w.heap[b]? = some (.map es clock) :=
  let ⟨_, ⟨es, clock, h1, _⟩, _⟩ := h; ⟨es, clock, h1⟩
theorem MapT.ext {P : Program} {k : TypeId} {z : Value} {w : World} {b n : Nat} {f g : Value → Value} (h : MapT P k z w b n f) (hg : ∀ key, f key = g key) : MapT P k z w b n g :=
  let ⟨D, h1, h2⟩ := h; ⟨D, h1, h2.two hg⟩
theorem MapT.same {P : Program} {k : TypeId} {z : Value} {w w' : World} {b n : Nat} {f : Value → Value} (h : MapT P k z w b n f) (hk : w'.heap[b]? = w.heap[b]?) : MapT P k z w' b n f := by
  obtain ⟨D, ⟨es, clock, h1, h2⟩, h3⟩ := h
  exact ⟨D, ⟨es, clock, hk.trans h1, h2⟩, h3⟩
theorem MapT.kept {P : Program} {k : TypeId} {z : Value} {w w' : World} {b n : Nat} {f : Value → Value} {X : List Nat} (h : MapT P k z w b n f) (hk : Kept X w w') (hX : b ∉ X) : MapT P k z w' b n f :=
  h.same (hk.block b h.lt hX)
theorem MapT.look {P : Program} {k e t : TypeId} {z : Value} {w : World} {b n : Nat} {f : Value → Value} (h : MapT P k z w b n f) (K : Keyed P k) (ht : P.underlying t = some (.map k e)) (hz : (zeroValue e).run P w = .ok z w)
    {key : Value} {kl : Lit} (hkey : keyOf P k key = some kl) : (Instr.lookup t (.map (some b)) key false).run P w = .ok (f key) w := by
  obtain ⟨D, h1, h2⟩ := h
  obtain ⟨v, ps, hrun, hv⟩ := h1.lookup K ht hz (zd := .held z) (zp := []) rfl hkey
  rw [(h2 key kl hkey).1] at hv
  unfold tokElem at hv
  injection hv with hv
  injection hv with hv _
  injection hv with hv
  rw [hrun, hv]
theorem MapT.store {P : Program} {k e t : TypeId} {z : Value} {w : World} {b n : Nat} {f : Value → Value} (h : MapT P k z w b n f) (K : Keyed P k) (ht : P.underlying t = some (.map k e)) (hn : n < maxLen)
    {key val : Value} {kl : Lit} (hkey : keyOf P k key = some kl) (g : Value → Value) (g1 : g key = val) (g2 : ∀ x, x ≠ key → g x = f x) (hz : val ≠ z) :
    ∃ w', (Instr.mapUpdate t (.map (some b)) key val).run P w = .ok () w' ∧ MapT P k z w' b (n + 1) g ∧ Kept [b] w w' := by
  obtain ⟨D, h1, h2⟩ := h
  have hm := h1.isMap
  obtain ⟨w', hrun, h3, hg⟩ := h1.update K ht hn hkey (d := .held val) (ps := []) rfl
  refine ⟨w', hrun, ⟨_, h3, fun key' kl' hk' => ?_⟩, ⟨hg.1, hg.2, hg.3, hg.4, fun j hj hx => hg.5 j hj (by simp at hx; intro hh; exact hx (by simpa using hh))⟩⟩
  by_cases hkk : key' = key
  · subst hkk
    obtain rfl : kl' = kl := by rw [hkey] at hk'; exact (Option.some.inj hk').symm
    exact ⟨by rw [atKey_put_same hm (K.key hkey), g1], fun _ => by rw [g1]; exact hz⟩
  · have hne : kl' ≠ kl := fun hh => hkk (K.inj (by rw [← hh]; exact hk') hkey)
    refine ⟨by rw [atKey_put_other hne, g2 _ hkk]; exact (h2 key' kl' hk').1, fun h => ?_⟩
    rw [g2 _ hkk] at h ⊢
    exact (h2 key' kl' hk').2 (fun zd => by rw [← h zd, atKey_put_other hne])
/-- A block of cells of a type, none of them frozen. -/
def Tag (w : World) (b : Nat) (t : TypeId) : Prop := ∃ cur, w.heap[b]? = some (.cells cur t (0, 0))
theorem Tag.lt {w : World} {b : Nat} {t : TypeId} (h : Tag w b t) : b < w.heap.size := by
  obtain ⟨cur, h⟩ := h
  exact (Array.getElem?_eq_some_iff.1 h).1
theorem Tag.same {w w' : World} {b : Nat} {t : TypeId} (h : Tag w b t) (hk : w'.heap[b]? = w.heap[b]?) : Tag w' b t := let ⟨cur, h⟩ := h; ⟨cur, hk.trans h⟩
theorem Tag.new (w : World) (cur : Array Value) (t : TypeId) (b : Nat) (hb : b = w.heap.size) : Tag (w.alloc (.cells cur t)) b t := by
  subst hb
  exact ⟨cur, heap_alloc_new w _⟩
theorem Tag.frozen {w : World} {b : Nat} {t : TypeId} (h : Tag w b t) (i : Nat) : w.frozen? ⟨b, i, none⟩ = false := by
  obtain ⟨cur, h⟩ := h
  simp [World.frozen?, h]
theorem Tag.set {w : World} {b : Nat} {t : TypeId} (h : Tag w b t) (x i : Nat) (v : Value) : Tag (w.setCell ⟨x, i, none⟩ v) b t := by
  obtain ⟨cur, h⟩ := h
  by_cases e : b = x
  · subst e
    unfold Tag World.setCell
    simp only [Array.getElem?_modify]
    simp [h]
  · exact ⟨cur, (RowKit.Below.heap_setCell _ _ _ _ e).trans h⟩
theorem Tag.ne_map {w : World} {b x : Nat} {t : TypeId} (h : Tag w b t) (hx : ∃ es clock, w.heap[x]? = some (.map es clock)) : b ≠ x := by
  rintro rfl
  obtain ⟨cur, h⟩ := h
  obtain ⟨es, clock, hx⟩ := hx
  rw [h] at hx
  cases hx
theorem Tag.ne {w : World} {b x : Nat} {t u : TypeId} (h : Tag w b t) (hx : Tag w x u) (hn : t ≠ u) : b ≠ x := by
  rintro rfl
  obtain ⟨cur, h⟩ := h
  obtain ⟨cur', hx⟩ := hx
  rw [h] at hx
  injection hx with hx
  injection hx with _ hx _
  exact hn hx
theorem own_tag {w : World} {base : Nat} {e : TypeId} {size : Nat} {v : Value} {n : Nat} {xs : List Value} (h : w.ownsRow base e size v n xs) {g : Nat} (hg : v.ownBlock = some g) : Tag w g e := by
  rcases h.2 with ⟨rfl, _⟩ | ⟨g', cap, cur, rfl, _, h1, _⟩
  · cases hg
  · injection hg with hg
    subst hg
    exact ⟨cur, h1⟩
/-- The blocks below base, and those of other types than TS, are as they were. -/
structure Kb (TS : List TypeId) (base : Nat) (w w' : World) : Prop where
  os : w'.os = w.os
  tape : w'.tape = w.tape
  output : w'.output = w.output
  size : w.heap.size ≤ w'.heap.size
  low : ∀ k, k < w.heap.size → k < base → w'.heap[k]? = w.heap[k]?
  tag : ∀ k t, Tag w k t → t ∉ TS → w'.heap[k]? = w.heap[k]?
theorem Kb.refl (TS : List TypeId) (base : Nat) (w : World) : Kb TS base w w := ⟨rfl, rfl, rfl, Nat.le_refl _, fun _ _ _ => rfl, fun _ _ _ _ => rfl⟩
theorem Kb.trans {TS : List TypeId} {base : Nat} {w w' w'' : World} (h : Kb TS base w w') (k : Kb TS base w' w'') : Kb TS base w w'' :=
  ⟨k.os.trans h.os, k.tape.trans h.tape, k.output.trans h.output, Nat.le_trans h.size k.size, fun x hx hb => (k.low x (Nat.lt_of_lt_of_le hx h.size) hb).trans (h.low x hx hb),
    fun x t ht hn => (k.tag x t (ht.same (h.tag x t ht hn)) hn).trans (h.tag x t ht hn)⟩
theorem Kb.of_kept {TS : List TypeId} {base : Nat} {X : List Nat} {w w' : World} (h : Kept X w w') (hX : ∀ x ∈ X, base ≤ x ∧ ∀ t, Tag w x t → t ∈ TS) : Kb TS base w w' :=
  ⟨h.os, h.tape, h.output, h.size, fun k hk hb => h.block k hk (fun hm => by have := (hX k hm).1; omega), fun k t ht hn => h.block k ht.lt (fun hm => hn ((hX k hm).2 t ht))⟩
theorem Kb.of_same {TS : List TypeId} {base : Nat} {w w' : World} (h : Kept [] w w') : Kb TS base w w' := Kb.of_kept h (by simp)
theorem Kb.below {TS : List TypeId} {base : Nat} {w w' : World} (h : Kb TS base w w') (hb : base ≤ w.heap.size) : Below base w w' :=
  ⟨h.os, h.tape, h.output, h.size, fun k hk => h.low k (by omega) hk⟩
theorem Kb.call {TS : List TypeId} {base : Nat} {w w' w'' : World} (h : Kb TS base w w') (hb : Below w'.heap.size w' w'') : Kb TS base w w'' := h.trans (Kb.of_same ((Kept.refl _ _).call hb))
/-- A table: a row of maps, each of its own; at row n and a key, what v says. -/
structure Tb (P : Program) (k tM : TypeId) (z : Value) (w : World) (r N : Nat) (m : Nat → Option Nat) (c : Nat → Nat) (v : Nat → Value → Value) : Prop where
  row : ∃ cur, w.heap[r]? = some (.cells cur tM (0, 0)) ∧ cur.size = N ∧ ∀ n, n < N → cur[n]? = some (.map (m n))
  is : ∀ n b, n < N → m n = some b → MapT P k z w b (c n) (v n)
  no : ∀ n, n < N → m n = none → ∀ a, v n a = z
  inj : ∀ n n' b, n < N → n' < N → m n = some b → m n' = some b → n = n'
variable {P : Program} {k tM : TypeId} {z : Value} {w : World} {r N : Nat} {m : Nat → Option Nat} {c : Nat → Nat} {v : Nat → Value → Value}
theorem Tb.rtag (h : Tb P k tM z w r N m c v) : Tag w r tM := let ⟨cur, h1, _⟩ := h.row; ⟨cur, h1⟩
theorem Tb.cell (h : Tb P k tM z w r N m c v) {n : Nat} (hn : n < N) : w.cell? ⟨r, n, none⟩ = some (.map (m n)) := by
  obtain ⟨cur, h1, _, h3⟩ := h.row
  simp [World.cell?, h1, h3 n hn]
theorem Tb.kept {X : List Nat} {w' : World} (h : Tb P k tM z w r N m c v) (hk : Kept X w w') (hr : r ∉ X) (hm : ∀ n b, n < N → m n = some b → b ∉ X) : Tb P k tM z w' r N m c v := by
  obtain ⟨cur, h1, h2, h3⟩ := h.row
  exact ⟨⟨cur, (hk.block r h.rtag.lt hr).trans h1, h2, h3⟩, fun n b hn hb => (h.is n b hn hb).kept hk (hm n b hn hb), h.no, h.inj⟩
/-- A table behind a call that turns other blocks only, by their types. -/
theorem Tb.ext (h : Tb P k tM z w r N m c v) {v' : Nat → Value → Value} (hv : ∀ n a, v n a = v' n a) : Tb P k tM z w r N m c v' := by
  have : v = v' := funext fun n => funext fun a => hv n a
  subst this
  exact h
open Classical in
noncomputable def updV (v : Nat → Value → Value) (n : Nat) (key x : Value) : Nat → Value → Value := fun n' key' => if n' = n ∧ key' = key then x else v n' key'
/-- A store into the map of a row. -/
theorem Tb.stored {w' : World} {n b : Nat} {key x : Value} (h : Tb P k tM z w r N m c v) (hn : n < N) (hb : m n = some b) (hk : Kept [b] w w') (hm : MapT P k z w' b (c n + 1) (updV v n key x n)) :
    Tb P k tM z w' r N m (fun i => if i = n then c n + 1 else c i) (updV v n key x) := by
  obtain ⟨cur, h1, h2, h3⟩ := h.row
  have hne : r ≠ b := h.rtag.ne_map (h.is n b hn hb).obj
  refine ⟨⟨cur, (hk.block r h.rtag.lt (by simpa using hne)).trans h1, h2, h3⟩, fun i b' hi hb' => ?_, fun i hi hi' a => ?_, h.inj⟩
  · by_cases e : i = n
    · subst e
      obtain rfl : b' = b := by rw [hb] at hb'; exact (Option.some.inj hb').symm
      simpa using hm
    · have h4 := (h.is i b' hi hb').kept hk (by intro hm'; simp at hm'; subst hm'; exact e (h.inj i n b' hi hn hb' hb))
      simp only [if_neg e]
      refine h4.ext fun a => ?_
      simp [updV, e]
  · have e : i ≠ n := by rintro rfl; rw [hb] at hi'; cases hi'
    simp only [updV]
    rw [if_neg (fun hh => e hh.1)]
    exact h.no i hi hi' a
/-- A row gets a map of its own. -/
theorem Tb.fresh {n b : Nat} (h : Tb P k tM z w r N m c v) (hn : n < N) (hm : m n = none) (hb : b = w.heap.size) :
    Tb P k tM z ((w.alloc (.map #[] 0)).setCell ⟨r, n, none⟩ (.map (some b))) r N (fun i => if i = n then some b else m i) c v := by
  subst hb
  obtain ⟨cur, h1, h2, h3⟩ := h.row
  have hr := h.rtag.lt
  have h1' : (w.alloc (.map #[] 0)).heap[r]? = some (.cells cur tM (0, 0)) := (((Kept.refl [] w).alloc _).block r hr (by simp)).trans h1
  have hrow : ((w.alloc (.map #[] 0)).setCell ⟨r, n, none⟩ (.map (some w.heap.size))).heap[r]? = some (.cells (cur.setIfInBounds n (.map (some w.heap.size))) tM (0, 0)) := by
    unfold World.setCell
    simp only [Array.getElem?_modify]
    simp [h1']
  have hkx : Kept [r] (w.alloc (.map #[] 0)) ((w.alloc (.map #[] 0)).setCell ⟨r, n, none⟩ (.map (some w.heap.size))) := (Kept.refl _ _).set _ _ _ (.inl (by simp))
  refine ⟨⟨_, hrow, by simpa using h2, fun i hi => ?_⟩, fun i b' hi hb' => ?_, fun i hi hi' => ?_, fun i j b' hi hj hbi hbj => ?_⟩
  · by_cases e : i = n
    · subst e
      simp [h2, hi]
    · rw [Array.getElem?_setIfInBounds_ne (Ne.symm e), h3 i hi, if_neg e]
  · by_cases e : i = n
    · subst e
      rw [if_pos rfl] at hb'
      injection hb' with hb'
      subst hb'
      have h5 : MapT P k z (w.alloc (.map #[] 0)) w.heap.size (c i) (v i) := ((MapT.made P k z w _ rfl).mono (Nat.zero_le _)).ext fun a => (h.no i hi hm a).symm
      exact h5.kept hkx (by simp; omega)
    · rw [if_neg e] at hb'
      have h4 := (h.is i b' hi hb').kept ((Kept.refl [] w).alloc (.map #[] 0)) (by simp)
      have h5 : b' ≠ r := (h.rtag.ne_map (h.is i b' hi hb').obj).symm
      exact h4.kept hkx (by simpa using h5)
  · by_cases e : i = n
    · subst e; rw [if_pos rfl] at hi'; cases hi'
    · rw [if_neg e] at hi'
      exact h.no i hi hi'
  · by_cases e : i = n
    · by_cases e' : j = n
      · omega
      · subst e
        rw [if_pos rfl] at hbi
        rw [if_neg e'] at hbj
        injection hbi with hbi
        have := (h.is j b' hj hbj).lt
        omega
    · rw [if_neg e] at hbi
      by_cases e' : j = n
      · subst e'
        rw [if_pos rfl] at hbj
        injection hbj with hbj
        have := (h.is i b' hi hbi).lt
        omega
      · rw [if_neg e'] at hbj
        exact h.inj i j b' hi hj hbi hbj
end Go.Df
namespace Go.Df
/-- One change after the other. -/
theorem Kept.next {X Y : List Nat} {W w w' : World} (h : Kept X W w) (h' : Kept Y w w') (hx : ∀ y ∈ Y, y ∈ X ∨ W.heap.size ≤ y) : Kept X W w' :=
  ⟨h'.os.trans h.os, h'.tape.trans h.tape, h'.output.trans h.output, Nat.le_trans h.size h'.size, fun k hk hn => (h'.block k (Nat.lt_of_lt_of_le hk h.size) (fun hm => by rcases hx k hm with h1 | h1; exact hn h1; omega)).trans (h.block k hk hn)⟩
/-- A map from integers to integers, as a function on keys. -/
def mv (g : Int → Int) (v : Value) : Lit := match v with | .int .i64 a => .int .i64 (g a) | _ => .int .i64 0
/-- A map from pairs to truth, as a function on keys. -/
def mbl (g : Int → Int → Bool) : List Value → Lit
  | [.int .i64 a, .int .i64 b] => .bool (g a b)
  | _ => .bool false
def mb (g : Int → Int → Bool) (v : Value) : Lit := match v with | .agg xs => mbl g xs.toList | _ => .bool false
namespace Sp
/-- How many of the first j nodes are a start, an exit or a throw node of f. -/
def cnt (ns : List Nd) : Nat → Int → Int
  | 0, _ => 0
  | j + 1, f => if (gn ns j).f = f ∧ ((gn ns j).k = 1 ∨ (gn ns j).k = 3 ∨ (gn ns j).k = 4) then cnt ns j f + 1 else cnt ns j f
/-- The last start node of f among the first j, or 0. -/
def lst (ns : List Nd) : Nat → Int → Int
  | 0, _ => 0
  | j + 1, f => if (gn ns j).f = f ∧ (gn ns j).k = 1 then (j : Int) else lst ns j f
/-- Does one of the first j edges call from x to y? -/
def ent (es : List Ed) : Nat → Int → Int → Bool
  | 0, _, _ => false
  | j + 1, x, y => if (ge es j).k = 2 ∧ (ge es j).a = x ∧ (ge es j).b = y then true else ent es j x y
/-- How many of the first j nodes are of kind k and of function f. -/
def ck (ns : List Nd) (k : Int) : Nat → Int → Int
  | 0, _ => 0
  | j + 1, f => if (gn ns j).f = f ∧ (gn ns j).k = k then ck ns k j f + 1 else ck ns k j f
theorem lessN_trans {a b c : Nd} (h1 : lessN a b = true) (h2 : lessN b c = true) : lessN a c = true := by
  unfold lessN at *
  grind
theorem node_less {ns : List Nd} {j : Nat} (h : nodeErr ns j = 0) (hj : 0 < j) : lessN (gn ns (j - 1)) (gn ns j) = true := by
  unfold nodeErr at h
  split at h
  · cases h
  · split at h
    · cases h
    · split at h
      · cases h
      · rename_i h3
        simp only [hj, true_and, Bool.not_eq_false] at h3
        exact h3
theorem node_asc {ns : List Nd} {n : Nat} (h : ∀ x, x < n → nodeErr ns x = 0) : ∀ j i, i < j → j < n → lessN (gn ns i) (gn ns j) = true := by
  intro j
  induction j with
  | zero => intro i hi; omega
  | succ j ih =>
    intro i hi hj
    have h1 := node_less (h (j + 1) hj) (by omega)
    rw [Nat.add_sub_cancel] at h1
    rcases Nat.lt_or_ge i j with h2 | h2
    · exact lessN_trans (ih i h2 (by omega)) h1
    · obtain rfl : i = j := by omega
      exact h1
theorem node_i {ns : List Nd} {j : Nat} (h : nodeErr ns j = 0) (hk : (gn ns j).k ≠ 2) : (gn ns j).i = -1 := by
  unfold nodeErr at h
  split at h
  · cases h
  · split at h
    · cases h
    · rename_i h3
      rcases Int.lt_or_le (gn ns j).f 0 with h4 | h4
      · exact absurd (Or.inl h4) h3
      · exact Classical.byContradiction (fun h5 => h3 (Or.inr (Or.inr ⟨hk, h5⟩)))
theorem kind_neg {ns : List Nd} {f k : Int} : kindAt ns f k < 0 ↔ ∀ j, j < ns.length → ¬ ((gn ns j).f = f ∧ (gn ns j).k = k) := by
  constructor
  · intro h j hj hh
    unfold kindAt at h
    split at h
    · omega
    · rename_i h1
      rw [List.findIdx?_eq_none_iff] at h1
      have := h1 _ (List.getElem_mem hj)
      rw [← gn_lt hj] at this
      simp [hh.1, hh.2] at this
  · intro h
    rw [kind_miss (fun j hj => by have := h j hj; simp only [Bool.and_eq_false_iff, beq_eq_false_iff_ne]; exact Classical.or_iff_not_imp_left.mpr (fun h1 h2 => this ⟨Classical.not_not.mp h1, h2⟩))]
    omega
end Sp
end Go.Df
