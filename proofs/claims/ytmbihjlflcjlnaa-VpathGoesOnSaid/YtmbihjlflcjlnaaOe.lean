/- The queue of walks in memory. No program in sight. -/
import Derived.Test.YtmbihjlflcjlnaaOd
namespace Go.Df
open Go.RowKit
open Sp
/-- A path in memory, in a block of numbers beyond base (or none). -/
def PathM (base : Nat) (ti : TypeId) (w : World) (A : Option Addr) (n c : Nat) (l : List Int) : Prop :=
  SIn w A n c l ∧ ∀ a, A = some a → base ≤ a.block ∧ Tag w a.block ti
theorem PathM.same {base : Nat} {ti : TypeId} {w w' : World} {A : Option Addr} {n c : Nat} {l : List Int} (h : PathM base ti w A n c l) (hs : w.heap.size ≤ w'.heap.size) (hb : ∀ b, Tag w b ti → base ≤ b → w'.heap[b]? = w.heap[b]?) : PathM base ti w' A n c l := by
  refine ⟨⟨⟨h.1.1.1, fun hn => ?_⟩, h.1.2⟩, fun a ha => ⟨(h.2 a ha).1, (h.2 a ha).2.same (hb _ (h.2 a ha).2 (h.2 a ha).1)⟩⟩
  obtain ⟨b, o, e, hl, hc⟩ := h.1.1.2 hn
  exact ⟨b, o, e, Nat.lt_of_lt_of_le hl hs, fun i hi => (cell_same (hb _ (h.2 _ e).2 (h.2 _ e).1) _).trans (hc i hi)⟩
/-- The cells of a queue of walks: the path, where it is, what is pending. -/
def QC (base : Nat) (ti : TypeId) (w : World) (vs : List Value) (q : List It) : Prop :=
  vs.length = q.length * 3 ∧ ∀ (i : Nat) (x : It), q[i]? = some x → ∃ A n c P, vs[i * 3]? = some (.slice A n c) ∧ vs[i * 3 + 1]? = some (.int .i64 x.at_) ∧ vs[i * 3 + 2]? = some (.pointer P) ∧ PathM base ti w A n c x.pa ∧ Pend w P x.cs
section
variable {base : Nat} {ti : TypeId} {w w' : World} {vs : List Value} {q : List It}
theorem QC.same (h : QC base ti w vs q) (hs : w.heap.size ≤ w'.heap.size) (hb : ∀ b, Tag w b ti → base ≤ b → w'.heap[b]? = w.heap[b]?) (hp : ∀ P cs, Pend w P cs → Pend w' P cs) : QC base ti w' vs q :=
  ⟨h.1, fun i x hx => by
    obtain ⟨A, n, c, P, h1, h2, h3, h4, h5⟩ := h.2 i x hx
    exact ⟨A, n, c, P, h1, h2, h3, h4.same hs hb, hp _ _ h5⟩⟩
/-- A call leaves the queue. -/
theorem QC.call (h : QC base ti w vs q) (hk : Kept [] w w') : QC base ti w' vs q :=
  h.same hk.size (fun b ht _ => hk.block b ht.lt (by simp)) (fun _ cs hp => Pend.kept hk cs hp)
/-- A round leaves the queue. -/
theorem QC.round {bx : Nat} {ta : TypeId} {lim : Nat} (h : QC base ti w vs q) (hk : KpT bx ta lim w w') (h1 : bx < base) (h2 : ti ≠ ta) : QC base ti w' vs q :=
  h.same hk.size (fun _ ht hb => hk.tag ht (by omega) (fun e => absurd e h2)) (fun _ cs hp => pend_kpt hk cs hp)
/-- One more walk is put behind the queue: its block is turned. -/
theorem QC.snoc {tw : TypeId} {base2 n : Nat} {v : Value} {xs : List Value} (h : QC base ti w vs q) (hk : Kept v.ownBlock.toList w w') (hown : w.ownsRow base2 tw 3 v n xs) (hne : ti ≠ tw) {A : Option Addr} {k c : Nat} {P : Option Addr} {x : It} (hp : PathM base ti w A k c x.pa) (hd : Pend w P x.cs) : QC base ti w' (vs ++ [.slice A k c, .int .i64 x.at_, .pointer P]) (q ++ [x]) := by
  have hX : ∀ b, Tag w b ti → base ≤ b → w'.heap[b]? = w.heap[b]? := fun b ht _ => hk.block b ht.lt (fun hm => ht.ne (own_tag hown (by simpa using hm)) hne rfl)
  have hP : ∀ P cs, Pend w P cs → Pend w' P cs := fun P cs h9 => pend_keptX hk (fun b u1 u2 hb hm => own_not2 hown (by simpa using hm) hb) cs h9
  have h0 := h.same hk.size hX hP
  refine ⟨by simp [h0.1]; omega, fun i y hy => ?_⟩
  by_cases hi : i < q.length
  · rw [List.getElem?_append_left hi] at hy
    obtain ⟨A', n', c', P', h1, h2, h3, h4, h5⟩ := h0.2 i y hy
    exact ⟨A', n', c', P', by rw [List.getElem?_append_left (by rw [h0.1]; omega)]; exact h1, by rw [List.getElem?_append_left (by rw [h0.1]; omega)]; exact h2, by rw [List.getElem?_append_left (by rw [h0.1]; omega)]; exact h3, h4, h5⟩
  · rw [List.getElem?_append_right (by omega)] at hy
    have hi2 : i - q.length = 0 := by
      rcases Nat.eq_zero_or_pos (i - q.length) with h9 | h9
      · exact h9
      · rw [List.getElem?_eq_none (by simp; omega)] at hy; cases hy
    rw [hi2] at hy
    have hy : x = y := by simpa using hy
    subst hy
    obtain rfl : i = q.length := by omega
    refine ⟨A, k, c, P, ?_, ?_, ?_, hp.same hk.size hX, hP _ _ hd⟩
    · rw [List.getElem?_append_right (by rw [h0.1]; omega), h0.1, Nat.sub_self]; rfl
    · rw [List.getElem?_append_right (by rw [h0.1]; omega), h0.1, show q.length * 3 + 1 - q.length * 3 = 1 by omega]; rfl
    · rw [List.getElem?_append_right (by rw [h0.1]; omega), h0.1, show q.length * 3 + 2 - q.length * 3 = 2 by omega]; rfl
end
end Go.Df
