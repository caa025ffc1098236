/- A square of truths that a call owns, and a list of pairs beside it. No program in sight. -/
import Derived.Test.YtffkikhknabddaaUj
import Derived.Test.YtffkikhknabddaaUg
namespace Go.Df
open Go.RowKit
namespace Rc
open Sp If
/-- A square of truths that a call owns; its first k rows are there. -/
structure Gd (w : World) (lo g N k : Nat) (bs : Nat → Nat) (e : Nat → Nat → Bool) : Prop where
  gl : g < w.heap.size
  fg : ∀ i, w.frozen? ⟨g, i, none⟩ = false
  row : ∀ i, i < k → w.cell? ⟨g, i, none⟩ = some (.slice (some ⟨bs i, 0, none⟩) N N)
  nil : ∀ i, k ≤ i → i < N → w.cell? ⟨g, i, none⟩ = some (.slice none 0 0)
  bl : ∀ i, i < k → bs i < w.heap.size
  lo : ∀ i, i < k → lo ≤ bs i
  cl : ∀ i j, i < k → j < N → w.cell? ⟨bs i, j, none⟩ = some (.bool (e i j))
  fr : ∀ i j, i < k → w.frozen? ⟨bs i, j, none⟩ = false
  inj : ∀ i i', i < k → i' < k → bs i = bs i' → i = i'
  ng : ∀ i, i < k → bs i ≠ g
section
variable {w w1 : World} {lo g N k : Nat} {bs : Nat → Nat} {e : Nat → Nat → Bool}
theorem Gd.kept {X : List Nat} (h : Gd w lo g N k bs e) (hk : Kept X w w1) (hg : g ∉ X) (hb : ∀ i, i < k → bs i ∉ X) : Gd w1 lo g N k bs e :=
  ⟨Nat.lt_of_lt_of_le h.gl hk.size, fun i => (hk.frozen g i h.gl hg).trans (h.fg i), fun i hi => (hk.cell g i h.gl hg).trans (h.row i hi), fun i hi hj => (hk.cell g i h.gl hg).trans (h.nil i hi hj), fun i hi => Nat.lt_of_lt_of_le (h.bl i hi) hk.size, h.lo,
    fun i j hi hj => (hk.cell _ j (h.bl i hi) (hb i hi)).trans (h.cl i j hi hj), fun i j hi => (hk.frozen _ j (h.bl i hi) (hb i hi)).trans (h.fr i j hi), h.inj, h.ng⟩
theorem Gd.drew (h : Gd w lo g N k bs e) : Gd w.drew lo g N k bs e := h.kept ((Kept.refl [] w).drew) (by simp) (by simp)
theorem Gd.start {MR : Array Value} {t : TypeId} (h : w.heap[g]? = some (.cells MR t (0, 0))) (hM : ∀ i, i < N → MR[i]? = some (.slice none 0 0)) : Gd w lo g N 0 bs e :=
  ⟨(Array.getElem?_eq_some_iff.1 h).1, fun i => by simp [World.frozen?, h], fun i hi => by omega, fun i _ hi => by simp [World.cell?, h, hM i hi], fun i hi => by omega, fun i hi => by omega, fun i j hi => by omega, fun i j hi => by omega, fun i i' hi => by omega, fun i hi => by omega⟩
theorem Gd.grow {b : Nat} {MB : Array Value} {t : TypeId} (h : Gd w lo g N k bs (fun _ _ => false)) (hk : k < N) (hw : Kept [] w w1) (hb : w.heap.size ≤ b) (hlo : lo ≤ w.heap.size) (h1 : w1.heap[b]? = some (.cells MB t (0, 0))) (hM : ∀ i, i < N → MB[i]? = some (.bool false)) :
    Gd (w1.setCell ⟨g, k, none⟩ (.slice (some ⟨b, 0, none⟩) N N)) lo g N (k + 1) (upd1 bs k b) (fun _ _ => false) := by
  have hb1 : b < w1.heap.size := (Array.getElem?_eq_some_iff.1 h1).1
  have hgl := h.gl
  have h2 := h.kept hw (by simp) (by simp)
  have hgb : g ≠ b := by omega
  refine ⟨by simpa [World.setCell] using h2.gl, fun i => by simpa using h2.fg i, fun i hi => ?_, fun i hi hj => ?_, fun i hi => ?_, fun i hi => ?_, fun i j hi hj => ?_, fun i j hi => ?_, fun i i' hi hi' he => ?_, fun i hi => ?_⟩
  · by_cases e : i = k
    · subst e; rw [upd1_at]; exact set_same (h2.nil i (Nat.le_refl _) hk)
    · rw [upd1_ne e, set_other (.inr (by omega))]; exact h2.row i (by omega)
  · rw [set_other (.inr (by omega))]; exact h2.nil i (by omega) hj
  · by_cases e : i = k
    · subst e; rw [upd1_at]; simpa [World.setCell] using hb1
    · rw [upd1_ne e]; simpa [World.setCell] using h2.bl i (by omega)
  · by_cases e : i = k
    · subst e; rw [upd1_at]; omega
    · rw [upd1_ne e]; exact h.lo i (by omega)
  · by_cases e : i = k
    · subst e; rw [upd1_at, set_other (.inl hgb)]; simp [World.cell?, h1, hM j hj]
    · rw [upd1_ne e, set_other (.inl (fun e2 => h.ng i (by omega) e2.symm))]; exact h2.cl i j (by omega) hj
  · by_cases e : i = k
    · subst e; rw [upd1_at]; simp only [World.frozen?_setCell]; simp [World.frozen?, h1]
    · rw [upd1_ne e]; simpa using h2.fr i j (by omega)
  · by_cases e : i = k
    · by_cases e2 : i' = k
      · omega
      · subst e; rw [upd1_at, upd1_ne e2] at he; have := h.bl i' (by omega); omega
    · by_cases e2 : i' = k
      · subst e2; rw [upd1_at, upd1_ne e] at he; have := h.bl i (by omega); omega
      · rw [upd1_ne e, upd1_ne e2] at he; exact h.inj i i' (by omega) (by omega) he
  · by_cases e : i = k
    · subst e; rw [upd1_at]; omega
    · rw [upd1_ne e]; exact h.ng i (by omega)
theorem Gd.set (h : Gd w lo g N N bs e) {i j : Nat} (hi : i < N) (hj : j < N) : Gd (w.setCell ⟨bs i, j, none⟩ (.bool true)) lo g N N bs (fun a b => e a b || (a == i && b == j)) := by
  have h0 : ∀ {x : Nat}, x < w.heap.size → x < (w.setCell ⟨bs i, j, none⟩ (.bool true)).heap.size := fun hx => by simpa [World.setCell] using hx
  refine ⟨h0 h.gl, fun i => by simpa using h.fg i, fun a ha => by rw [set_other (.inl (h.ng i hi))]; exact h.row a ha, fun a h1 h2 => by omega, fun a ha => h0 (h.bl a ha), h.lo, fun a b ha hb => ?_, fun a b ha => by simpa using h.fr a b ha, h.inj, h.ng⟩
  by_cases e1 : a = i
  · subst e1
    by_cases e2 : b = j
    · subst e2
      rw [set_same (h.cl a b ha hb)]; simp
    · rw [set_other (.inr (by omega)), h.cl a b ha hb]; simp [e2]
  · rw [set_other (.inl (fun e3 => e1 (h.inj _ _ hi ha e3).symm)), h.cl a b ha hb]; simp [e1]
end
/-- The blocks that a search may turn. -/
def SB (N : Nat) (bs : Nat → Nat) (tv : Value) : List Nat := tv.ownBlock.toList ++ (List.range N).map bs
theorem SB_mem {N : Nat} {bs : Nat → Nat} {tv : Value} {x : Nat} : x ∈ SB N bs tv ↔ tv.ownBlock = some x ∨ ∃ i, i < N ∧ bs i = x := by
  simp [SB]
/-- The search for the frames in memory. -/
structure Fm (tw : TypeId) (lim : Nat) (w : World) (lo g N : Nat) (bs : Nat → Nat) (tv : Value) (f : Fs) : Prop where
  gd : Gd w lo g N N bs f.e
  own : w.ownsRow lim tw 2 tv f.q.length (pcells f.q)
  hl : lim ≤ w.heap.size
  bh : ∀ i, i < N → bs i < lim
  gh : g < lim
section
variable {tw : TypeId} {lim : Nat} {w w1 : World} {lo g N : Nat} {bs : Nat → Nat} {tv tv' : Value} {f : Fs}
theorem Fm.kept {X : List Nat} (h : Fm tw lim w lo g N bs tv f) (hk : Kept X w w1) (hg : g ∉ X) (hb : ∀ i, i < N → bs i ∉ X) (ht : ∀ x, tv.ownBlock = some x → x ∉ X) : Fm tw lim w1 lo g N bs tv f :=
  ⟨h.gd.kept hk hg hb, own_kept2 h.own hk ht, Nat.le_trans h.hl hk.size, h.bh, h.gh⟩
theorem Fm.same (h : Fm tw lim w lo g N bs tv f) (hk : Kept [] w w1) : Fm tw lim w1 lo g N bs tv f := h.kept hk (by simp) (by simp) (by simp)
theorem Fm.lt (h : Fm tw lim w lo g N bs tv f) {x : Nat} (hx : x ∈ SB N bs tv) : x < w.heap.size := by
  rcases SB_mem.1 hx with h1 | ⟨i, hi, rfl⟩
  · exact own_lt2 h.own h1
  · exact h.gd.bl i hi
theorem Fm.ge (h : Fm tw lim w lo g N bs tv f) {x : Nat} (hx : x ∈ SB N bs tv) (hlo : lo ≤ lim) : lo ≤ x := by
  rcases SB_mem.1 hx with h1 | ⟨i, hi, rfl⟩
  · exact Nat.le_trans hlo (own_ge h.own h1)
  · exact h.gd.lo i hi
/-- The truth at x is set. -/
theorem Fm.set (h : Fm tw lim w lo g N bs tv f) {x : Nat × Nat} (h1 : x.1 < N) (h2 : x.2 < N) : Gd (w.setCell ⟨bs x.1, x.2, none⟩ (.bool true)) lo g N N bs (fun a b => f.e a b || (a == x.1 && b == x.2)) ∧ (w.setCell ⟨bs x.1, x.2, none⟩ (.bool true)).ownsRow lim tw 2 tv f.q.length (pcells f.q) ∧ Kept (SB N bs tv) w (w.setCell ⟨bs x.1, x.2, none⟩ (.bool true)) := by
  refine ⟨h.gd.set h1 h2, own_kept2 h.own ((Kept.refl [bs x.1] w).set _ _ _ (.inl (by simp))) (fun y hy hm => ?_), (Kept.refl _ w).set _ _ _ (.inl (SB_mem.2 (.inr ⟨_, h1, rfl⟩)))⟩
  obtain rfl := List.mem_singleton.1 hm
  have h3 := own_ge h.own hy
  have h4 := h.bh _ h1
  omega
/-- .. and x is put behind the list. -/
theorem Fm.put (h : Fm tw lim w lo g N bs tv f) {x : Nat × Nat} (hf : f.e x.1 x.2 = false) {e1 : Nat → Nat → Bool} (he : e1 = fun a b => f.e a b || (a == x.1 && b == x.2)) {w2 : World} (hd : Gd w1 lo g N N bs e1) (hl : lim ≤ w1.heap.size) (hk : Kept tv.ownBlock.toList w1 w2)
    (hv : w2.ownsRow lim tw 2 tv' (f.q.length + 1) (pcells f.q ++ [.int .i64 (x.1 : Int), .int .i64 (x.2 : Int)])) : Fm tw lim w2 lo g N bs tv' (fadd f x) := by
  have e2 : fadd f x = ⟨fun a b => f.e a b || (a == x.1 && b == x.2), f.q ++ [x]⟩ := by unfold fadd; rw [if_neg (by simp [hf])]
  have hlow : ∀ y, y < lim → y ∉ tv.ownBlock.toList := fun y hy hm => by
    have := own_ge h.own (by simpa using hm)
    omega
  rw [e2]
  subst he
  refine ⟨hd.kept hk (hlow _ h.gh) (fun i hi => hlow _ (h.bh i hi)), ?_, Nat.le_trans hl hk.size, h.bh, h.gh⟩
  rw [pcells_snoc, List.length_append]
  exact hv
end
end Rc
end Go.Df
