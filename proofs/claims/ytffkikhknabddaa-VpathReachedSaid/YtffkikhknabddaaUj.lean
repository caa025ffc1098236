/- The reference's frames: bounds, and what its outer loop keeps to. No program in sight. -/
import Derived.Test.YtffkikhknabddaaUc
namespace Go.Df
open Go.RowKit
namespace Rc
open Sp If
/-- What falls with each look at a frame. -/
def muF (N : Nat) (f : Fs) : Nat := ((List.range (N * N)).countP fun x => !f.e (x / N) (x % N)) + f.q.length
theorem mu_fadd {N : Nat} (f : Fs) {x : Nat × Nat} (h1 : x.1 < N) (h2 : x.2 < N) : muF N (fadd f x) ≤ muF N f := by
  obtain ⟨a, b⟩ := x
  dsimp only at h1 h2
  unfold fadd
  split
  · exact Nat.le_refl _
  · rename_i h
    have hN : 0 < N := by omega
    have e1 : (a * N + b) / N = a := by
      rw [Nat.mul_comm, Nat.mul_add_div hN, Nat.div_eq_of_lt h2]; omega
    have e2 : (a * N + b) % N = b := by
      rw [Nat.mul_comm, Nat.mul_add_mod, Nat.mod_eq_of_lt h2]
    have h3 : a * N + b < N * N := by
      have : (a + 1) * N ≤ N * N := Nat.mul_le_mul_right N (by omega)
      rw [Nat.add_mul] at this
      omega
    have h4 : ((List.range (N * N)).countP fun x => !(f.e (x / N) (x % N) || (x / N == a && x % N == b))) < (List.range (N * N)).countP fun x => !f.e (x / N) (x % N) :=
      countP_lt (y := a * N + b) (fun x hx => by simp at hx ⊢; exact hx.1) (by rw [e1, e2]; simpa using h) (by rw [e1, e2]; simp) _ (List.mem_range.2 h3)
    unfold muF
    simp only [List.length_append, List.length_singleton]
    omega
theorem mu_fadds {N : Nat} : ∀ (l : List (Nat × Nat)) (f : Fs), (∀ x ∈ l, x.1 < N ∧ x.2 < N) → muF N (l.foldl fadd f) ≤ muF N f
  | [], _, _ => Nat.le_refl _
  | x :: l, f, h => Nat.le_trans (mu_fadds l _ (fun y hy => h y (by simp [hy]))) (mu_fadd f (h x (by simp)).1 (h x (by simp)).2)
theorem q_le_mu (N : Nat) (f : Fs) : f.q.length ≤ muF N f := by unfold muF; omega
theorem fadd_pre (f : Fs) (x : Nat × Nat) : ∃ t, (fadd f x).q = f.q ++ t := by
  unfold fadd
  split
  · exact ⟨[], by simp⟩
  · exact ⟨[x], rfl⟩
theorem fadds_pre : ∀ (l : List (Nat × Nat)) (f : Fs), ∃ t, (l.foldl fadd f).q = f.q ++ t
  | [], _ => ⟨[], by simp⟩
  | x :: l, f => by
    obtain ⟨t, ht⟩ := fadd_pre f x
    obtain ⟨u, hu⟩ := fadds_pre l (fadd f x)
    exact ⟨t ++ u, by rw [List.foldl_cons, hu, ht, List.append_assoc]⟩
theorem fround_succ (es : List Ed) (N s n j : Nat) (f : Fs) : fround es N s n (j + 1) f = fedge es N s n (fround es N s n j f) j := by unfold fround; rw [List.range_succ, List.foldl_append]; rfl
theorem fround_pre (es : List Ed) (N s n : Nat) (f : Fs) : ∀ j, ∃ t, (fround es N s n j f).q = f.q ++ t
  | 0 => ⟨[], by simp [fround]⟩
  | j + 1 => by
    obtain ⟨t, ht⟩ := fround_pre es N s n f j
    obtain ⟨u, hu⟩ := fadds_pre (toX es (fround es N s n j f).e N s n j) (fround es N s n j f)
    exact ⟨t ++ u, by rw [fround_succ, ← List.append_assoc, ← ht]; exact hu⟩
theorem Fi.sub {es : List Ed} {m : Int} {N : Nat} {f : Fs} {D D' : Nat → Nat → Nat → Prop} (h : Fi es m N f D) (hD : ∀ s n k, k < es.length → D' s n k → D s n k) (hd : ∀ s n k, D' s n k → f.e s n = true) : Fi es m N f D' :=
  ⟨h.mn, h.snd, h.q, hd, fun s k hk h2 h3 => h.fl s k hk h2 (hD _ _ _ hk h3), fun s k hk h2 h3 => h.cl s k hk h2 (hD _ _ _ hk h3), fun s c r hc h2 hr h3 h4 h5 h6 => h.rt s c r hc h2 hr h3 h4 (hD _ _ _ hc h5) (hD _ _ _ hr h6)⟩
/-- The first i frames of the list are done with. -/
def Dn (f : Fs) (i s n _k : Nat) : Prop := ∃ p, p < i ∧ f.q[p]? = some (s, n)
structure Fo (es : List Ed) (m : Int) (N : Nat) (f : Fs) (i : Nat) : Prop where
  fi : Fi es m N f (Dn f i)
  mu : muF N f ≤ N * N
def fs0 (m : Nat) : Fs := fadd ⟨fun _ _ => false, []⟩ (m, m)
theorem Fo.init {es : List Ed} {m N : Nat} (hm : m < N) : Fo es (m : Int) N (fs0 m) 0 := by
  have h0 : ∀ s n k, ¬ Dn (fs0 m) 0 s n k := fun s n k ⟨p, hp, _⟩ => by omega
  refine ⟨⟨fadd_has _ (m, m), fun s n h => ?_, fadd_q (fun x => by simp) _, fun s n k h => absurd h (h0 _ _ _), fun s k _ _ h => absurd h (h0 _ _ _), fun s k _ _ h => absurd h (h0 _ _ _), fun s c r _ _ _ _ _ h => absurd h (h0 _ _ _)⟩, ?_⟩
  · unfold fs0 fadd at h
    simp at h
    obtain ⟨rfl, rfl⟩ := h
    exact .main
  · refine Nat.le_trans (mu_fadd _ hm hm) ?_
    unfold muF
    refine Nat.le_trans (Nat.add_le_add_right List.countP_le_length _) ?_
    simp
section
variable {ns : List Nd} {es : List Ed} {m : Int} (hs : superErr ns es m = 0)
include hs
theorem Fo.lt {N : Nat} (hN : N = ns.length) {f : Fs} {i : Nat} (h : Fo es m N f i) {s n : Nat} (hn : f.e s n = true) : s < N ∧ n < N := by
  have := (h.fi.snd _ _ hn).start hs
  omega
/-- What holds while a frame is looked at. -/
structure FrF (es : List Ed) (m : Int) (N : Nat) (f : Fs) (i s n : Nat) : Prop where
  lt : s < N ∧ n < N
  el : ∀ k, k < es.length → ∀ x ∈ toX es (fround es N s n k f).e N s n k, x.1 < N ∧ x.2 < N
  ql : ∀ k, k < es.length → ∀ j, ((((toX es (fround es N s n k f).e N s n k).take j).foldl fadd (fround es N s n k f)).q).length ≤ N * N
  nx : Fo es m N (fround es N s n es.length f) (i + 1)
theorem Fo.look {N : Nat} (hN : N = ns.length) {f : Fs} {i : Nat} (h : Fo es m N f i) {s n : Nat} (hq : f.q[i]? = some (s, n)) : FrF es m N f i s n := by
  have hm : (s, n) ∈ f.q := List.mem_of_getElem? hq
  have hn : f.e s n = true := (h.fi.q (s, n)).1 hm
  have el : ∀ k, k < es.length → ∀ x ∈ toX es (fround es N s n k f).e N s n k, x.1 < N ∧ x.2 < N := fun k hk x hx => by
    obtain ⟨h1, h2⟩ := Fi.round hs hN k (Nat.le_of_lt hk) h.fi hn
    have := (toX_snd hs h1.snd hk h2 x hx).start hs
    omega
  have mu : ∀ k, k ≤ es.length → muF N (fround es N s n k f) ≤ N * N := by
    intro k
    induction k with
    | zero => intro _; exact h.mu
    | succ k ih =>
      intro hk
      rw [fround_succ]
      exact Nat.le_trans (mu_fadds _ _ (el k (by omega))) (ih (by omega))
  refine ⟨h.lt hs hN hn, el, fun k hk j => ?_, ?_, mu _ (Nat.le_refl _)⟩
  · exact Nat.le_trans (q_le_mu N _) (Nat.le_trans (mu_fadds _ _ (fun x hx => el k hk x (List.mem_of_mem_take hx))) (mu k (by omega)))
  · obtain ⟨h1, h2⟩ := Fi.round hs hN es.length (Nat.le_refl _) h.fi hn
    obtain ⟨t, ht⟩ := fround_pre es N s n f es.length
    have hi : i < f.q.length := (List.getElem?_eq_some_iff.1 hq).1
    refine h1.sub (fun s' n' k' hk' hd => ?_) (fun s' n' k' hd => ?_)
    · obtain ⟨p, hp, hpq⟩ := hd
      rw [ht, List.getElem?_append_left (by omega)] at hpq
      by_cases e : p = i
      · subst e
        rw [hq] at hpq
        injection hpq with e
        injection e with e1 e2
        exact .inr ⟨e1.symm, e2.symm, hk'⟩
      · exact .inl ⟨p, by omega, hpq⟩
    · obtain ⟨p, hp, hpq⟩ := hd
      exact (h1.q (s', n')).1 (List.mem_of_getElem? hpq)
omit hs in
theorem Fo.done {N : Nat} {f : Fs} (h : Fo es m N f f.q.length) (s n : Nat) : f.e s n = true ↔ FR es m s n := by
  refine Fi.done (es := es) (m := m) (N := N) (h.fi.sub (fun s' n' k' _ hd => ?_) (fun _ _ _ hd => hd)) s n
  have hm := (h.fi.q (s', n')).2 hd
  obtain ⟨p, hp, e⟩ := List.mem_iff_getElem.1 hm
  exact ⟨p, hp, by rw [List.getElem?_eq_getElem hp, e]⟩
end
/-- One of the first k rows is true at n. -/
def orB (e : Nat → Nat → Bool) (k n : Nat) : Bool := (List.range k).any fun s => e s n
theorem orB_succ (e : Nat → Nat → Bool) (k n : Nat) : orB e (k + 1) n = (orB e k n || e k n) := by simp [orB, List.range_succ]
theorem orB_done {ns : List Nd} {es : List Ed} {m : Int} (hs : superErr ns es m = 0) {e : Nat → Nat → Bool} (h : ∀ s n, e s n = true ↔ FR es m s n) (n : Nat) : orB e ns.length n = true ↔ RE es m n := by
  unfold orB
  rw [List.any_eq_true]
  constructor
  · rintro ⟨s, _, h1⟩
    exact RE.of_frame ((h s n).1 h1)
  · intro h1
    obtain ⟨s, h2⟩ := RE.frame hs h1
    exact ⟨s, List.mem_range.2 (h2.start hs).1, (h s n).2 h2⟩
end Rc
end Go.Df
