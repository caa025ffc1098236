/- Contracts of the reference's Start, Exit, nodes. -/
import Derived.Test.YtmbihjlflcjlnaaSc
namespace Go.Df.Sp
/-- The first error from place k on, among n places. -/
def fe (err : Nat → Int) : Nat → Nat → Int
  | _, 0 => 0
  | k, n + 1 => if err k = 0 then fe err (k + 1) n else err k
theorem fe_from (err : Nat → Int) (n : Nat) : ∀ (k j : Nat), (∀ i, k ≤ i → i < j → err i = 0) → k ≤ j → j < k + n → err j ≠ 0 → fe err k n = err j := by
  induction n with
  | zero => intro k j _ h1 h2; omega
  | succ n ih =>
    intro k j h h1 h2 h3
    rw [fe]
    rcases Nat.lt_or_ge k j with h4 | h4
    · rw [if_pos (h k (Nat.le_refl _) h4)]
      exact ih (k + 1) j (fun i hi hj => h i (by omega) hj) (by omega) (by omega) h3
    · obtain rfl : k = j := by omega
      rw [if_neg h3]
theorem fe_hit {err : Nat → Int} {n j : Nat} {e : Int} (h : ∀ i, i < j → err i = 0) (hj : j < n) (he : err j = e) (h0 : e ≠ 0) : fe err 0 n = e := by
  subst he
  exact fe_from err n 0 j (fun i _ hi => h i hi) (Nat.zero_le _) (by omega) h0
theorem fe_ok {err : Nat → Int} (n : Nat) : ∀ k, (∀ i, k ≤ i → i < k + n → err i = 0) → fe err k n = 0 := by
  induction n with
  | zero => intro k _; rfl
  | succ n ih =>
    intro k h
    rw [fe, if_pos (h k (Nat.le_refl _) (by omega))]
    exact ih (k + 1) (fun i hi hj => h i (by omega) (by omega))
theorem fe_zero {err : Nat → Int} (n : Nat) : ∀ k, fe err k n = 0 → ∀ i, k ≤ i → i < k + n → err i = 0 := by
  induction n with
  | zero => intro k _ i h1 h2; omega
  | succ n ih =>
    intro k h i h1 h2
    rw [fe] at h
    by_cases e : err k = 0
    · rw [if_pos e] at h
      rcases Nat.eq_or_lt_of_le h1 with rfl | h3
      · exact e
      · exact ih (k + 1) h i (by omega) (by omega)
    · rw [if_neg e] at h; exact absurd h e
/-- The error of a node. -/
def nodeErr (ns : List Nd) (j : Nat) : Int :=
  if (gn ns j).k < 1 ∨ 4 < (gn ns j).k then 12
  else if (gn ns j).f < 0 ∨ ((gn ns j).k = 2 ∧ (gn ns j).i < 0) ∨ ((gn ns j).k ≠ 2 ∧ (gn ns j).i ≠ -1) then 4
  else if 0 < j ∧ lessN (gn ns (j - 1)) (gn ns j) = false then 13 else 0
/-- Has the function of a node its three nodes? -/
def wholeErr (ns : List Nd) (j : Nat) : Int :=
  if kindAt ns (gn ns j).f 1 < 0 ∨ kindAt ns (gn ns j).f 3 < 0 ∨ kindAt ns (gn ns j).f 4 < 0 then 1 else 0
def mainErr (ns : List Nd) (m : Int) : Int := if m < 0 ∨ (ns.length : Int) ≤ m ∨ (gn ns m.toNat).k ≠ 1 then 14 else 0
def nodesErr (ns : List Nd) (m : Int) : Int :=
  if fe (nodeErr ns) 0 ns.length ≠ 0 then fe (nodeErr ns) 0 ns.length else if fe (wholeErr ns) 0 ns.length ≠ 0 then fe (wholeErr ns) 0 ns.length else mainErr ns m
end Go.Df.Sp
namespace Go.Proofs.Ytmbihjlflcjlnaa
open Go.RowKit Go.Df
attribute [local go_sem ↓] Go.wp_at_zero Go.wp_at_succ

set_option maxHeartbeats 1000000 in
theorem start_any (A1 A2 : Option Addr) (n1 c1 n2 c2 : Nat) (mn f : Int) (ns : List Sp.Nd) (w : World) (hn : Nds w A1 n1 ns) (hs : n1 ≤ 1000000) :
    Calls Try.prog 43 #[.agg #[.slice A1 n1 c1, .slice A2 n2 c2, .int .i64 mn], .int .i64 f] w fun e w' => e = .returned (.int .i64 (Sp.kindAt ns f 1)) ∧ Below w.heap.size w w' := by
  have HN := Lib.hid hn
  clear hn
  go_enter Try.func43, Try.ntmps43
  go_upto_region 1 with fail
  refine wp_named (fun W => ∃ b0, w.heap.size = b0 ∧ Blk W b0 [.slice A1 n1 c1, .slice A2 n2 c2, .int .i64 mn] ∧ Below w.heap.size w W) ⟨_, rfl, ?_, ?_⟩ ?_
  · exact Blk.new _ _ _ _ (by first | rfl | simp)
  · go_grown
  rintro W ⟨b0, e0, B0, hB⟩
  rw [e0]
  have G0 : w.heap.size ≤ b0 := by omega
  clear e0
  have ⟨L0, C0, F0⟩ := B0
  go_wp2_with fail
  refine (kind_any _ _ _ _ _ _ _ _ _ ns _ (HN.out.later hB) hs).mono ?_
  rintro e w1 ⟨rfl, hb1⟩
  go_wp2_with fail
  go_ret
  exact ⟨rfl, below_step hB.size hB hb1⟩
set_option maxHeartbeats 1000000 in
theorem exit_any (A1 A2 : Option Addr) (n1 c1 n2 c2 : Nat) (mn f : Int) (ns : List Sp.Nd) (w : World) (hn : Nds w A1 n1 ns) (hs : n1 ≤ 1000000) :
    Calls Try.prog 42 #[.agg #[.slice A1 n1 c1, .slice A2 n2 c2, .int .i64 mn], .int .i64 f] w fun e w' => e = .returned (.tuple #[.int .i64 (Sp.kindAt ns f 3), .int .i64 (Sp.kindAt ns f 4)]) ∧ Below w.heap.size w w' := by
  have HN := Lib.hid hn
  clear hn
  go_enter Try.func42, Try.ntmps42
  go_upto_region 1 with fail
  refine wp_named (fun W => ∃ b0, w.heap.size = b0 ∧ Blk W b0 [.slice A1 n1 c1, .slice A2 n2 c2, .int .i64 mn] ∧ Below w.heap.size w W) ⟨_, rfl, ?_, ?_⟩ ?_
  · exact Blk.new _ _ _ _ (by first | rfl | simp)
  · go_grown
  rintro W ⟨b0, e0, B0, hB⟩
  rw [e0]
  have G0 : w.heap.size ≤ b0 := by omega
  clear e0
  have ⟨L0, C0, F0⟩ := B0
  have HW := Lib.hid (HN.out.later hB)
  go_wp2_with fail
  go_region_held3 (fun w' => SX0 W w') (repeat' first | (with_reducible assumption) | (with_reducible exact SX0.init _) | (with_reducible exact SX0.refl _) | (with_reducible refine SX0.alloc ?_ _) | (with_reducible refine SX0.call ?_ (by assumption)) | (with_reducible refine SX0.set ?_ _ _ _ ?_) | (with_reducible refine SX0.drew ?_) | (simp; done) | omega | (simp; omega))
    (first | (go_at_call 46; ((with_reducible refine (kind_any _ _ _ _ _ _ _ _ _ ns _ (HW.out.kept (by first | exact (by assumption : SX0 W _).1)) hs).mono ?_)); rintro e w3 ⟨rfl, hb3⟩; obtain ⟨hc3, hf3, hg3⟩ := bcell hb3; have hz3 := hb3.size; try simp at hz3))
  all_goals
    go_wp2_with fail
    go_ret2
    refine ⟨rfl, Kept.below (X := []) hB hB.size (by simp) ?_⟩
    (repeat' first | (with_reducible assumption) | (with_reducible exact Kept.refl _ _) | (with_reducible refine Kept.alloc ?_ _) | (with_reducible refine Kept.call ?_ (by assumption)) | (with_reducible refine Kept.set ?_ _ _ _ (Or.inr ?_)) | (with_reducible refine Kept.drew ?_) | (simp; done) | omega | (simp; omega))
end Go.Proofs.Ytmbihjlflcjlnaa
