/- append, as a step of a region that draws its order; slices as lists of cells. No program in sight. -/
import Derived.Test.YthliphpcfnbmnaaPw
import Derived.Deep.AppendLies
namespace Go.Df
open Go.RowKit
/-- A slice with address A and n elements of k cells each holds the cells cs. -/
def Rd (w : World) (k : Nat) (A : Option Addr) (n : Nat) (cs : List Value) : Prop :=
  cs.length = n * k ∧ (0 < n → ∃ b o, A = some ⟨b, o, none⟩ ∧ b < w.heap.size ∧ ∀ j, j < n * k → w.cell? ⟨b, o + j, none⟩ = cs[j]?)
theorem Rd.keptX {X : List Nat} {w w' : World} {k n : Nat} {A : Option Addr} {cs : List Value} (h : Rd w k A n cs) (hk : Kept X w w') (hx : ∀ a, A = some a → a.block ∉ X) : Rd w' k A n cs :=
  ⟨h.1, fun hn => by
    obtain ⟨b, o, e, hl, hc⟩ := h.2 hn
    exact ⟨b, o, e, Nat.lt_of_lt_of_le hl hk.size, fun j hj => (hk.cell b (o + j) hl (hx _ e)).trans (hc j hj)⟩⟩
theorem Rd.kept {w w' : World} {k n : Nat} {A : Option Addr} {cs : List Value} (h : Rd w k A n cs) (hk : Kept [] w w') : Rd w' k A n cs := h.keptX hk (by simp)
theorem Rd.later {w w' : World} {k n : Nat} {A : Option Addr} {cs : List Value} (h : Rd w k A n cs) (hb : Below w.heap.size w w') : Rd w' k A n cs := h.kept ((Kept.refl _ _).call hb)
theorem Rd.alloc {w : World} {k n : Nat} {A : Option Addr} {cs : List Value} (h : Rd w k A n cs) (o : Obj) : Rd (w.alloc o) k A n cs := h.kept ((Kept.refl _ _).alloc o)
theorem Rd.drew {w : World} {k n : Nat} {A : Option Addr} {cs : List Value} (h : Rd w k A n cs) : Rd w.drew k A n cs := h
theorem Rd.new1 (w : World) (b : Nat) (v : Value) (t : TypeId) (hb : b = w.heap.size) : Rd (w.alloc (.cells #[v] t)) 1 (some ⟨b, 0, none⟩) 1 [v] := by
  subst hb
  refine ⟨rfl, fun _ => ⟨_, _, rfl, by simp, fun j _ => ?_⟩⟩
  rw [World.cell?_alloc_new, Nat.zero_add]; simp
theorem Rd.ints {w : World} {A : Option Addr} {n : Nat} {xs : List Int} (h : Ints w A n xs) : Rd w 1 A n (xs.map (Value.int .i64)) := by
  refine ⟨by simpa using h.1, fun hn => ?_⟩
  obtain ⟨b, o, e, hl, hc⟩ := h.2 hn
  refine ⟨b, o, e, hl, fun j hj => ?_⟩
  rw [hc j (by omega), List.getElem?_map, List.getElem?_eq_getElem (by have := h.1; omega), gi_lt (by have := h.1; omega)]; rfl
theorem Rd.news {w : World} {k n : Nat} {a : Addr} {cs : List Value} (h : Rd w k (some a) n cs) : ∀ j u, cs[j]? = some u → w.cell? (a.add j) = some u := by
  intro j u hu
  rcases Nat.lt_or_ge j cs.length with hj | hj
  · have hl := h.1
    obtain ⟨b, o, e, _, hc⟩ := h.2 (by
      rcases Nat.eq_zero_or_pos n with h0 | h0
      · subst h0; simp at hl; simp [hl] at hj
      · exact h0)
    injection e with e
    subst e
    rw [add_lit, hc j (by omega), hu]
  · rw [List.getElem?_eq_none hj] at hu; cases hu
theorem kept_grown {w w' : World} {row : Option Nat} (h : w.grownBy w' row) : Kept row.toList w w' :=
  ⟨h.os, h.tape, h.output, h.size, fun k hk hx => h.block k hk (fun e => hx (by simp [← e]))⟩
theorem own_new0 (w : World) (b base : Nat) (t : TypeId) (hb : b = w.heap.size) (hbase : base ≤ b) : (w.alloc (.cells #[] t)).ownsRow base t 1 (.slice (some ⟨b, 0, none⟩) 0 0) 0 [] := by
  subst hb
  exact ⟨rfl, .inr ⟨w.heap.size, 0, #[], rfl, hbase, heap_alloc_new w _, Nat.le_refl _, Nat.zero_le _, rfl, rfl⟩⟩
section
variable {P : Program} (w : World)
/-- append onto a row of the call's own. -/
theorem run_append_rd (base : Nat) (t ty e : TypeId) (i : TypeInfo) (z : Value) (size bytes : Nat) (ht : P.underlying t = some (.slice e)) (hi : P.info? e = some i) (hz : i.zero = some z)
    (hsize : i.size = size) (hby : i.bytes = bytes) (hzs : z.cells.size = size) (hsz : 0 < size)
    (v : Value) (n : Nat) (xs : List Value) (hown : w.ownsRow base e size v n xs)
    (A : Option Addr) (m c : Nat) (news : List Value) (hr : Rd w size A m news) (hA : A = none → m = 0) (h1 : ∀ u ∈ news, u.oneCell' = true)
    (N : Nat) (hN : n + m = N) (ys : List Value) (hys : xs ++ news = ys) (h63 : N ≤ maxLen) (hbytes : N * bytes ≤ 140737488355328) (hbase : base ≤ w.heap.size) :
    ∃ A' c' w', (Builtin.append_ #[t, t] ty #[v, .slice A m c]).run P w = .ok (.slice A' N c') w' ∧ w'.ownsRow base e size (.slice A' N c') N ys ∧ Kept v.ownBlock.toList w w' ∧
      (∀ g, (Value.slice A' N c').ownBlock = some g → v.ownBlock = some g ∨ g = w.heap.size) := by
  subst hN hys
  have form : ∀ (w' : World) (v' : Value) (k : Nat) (ys : List Value), w'.ownsRow base e size v' k ys → ∃ A' c', v' = .slice A' k c' := by
    intro w' v' k ys h
    rcases h.2 with ⟨rfl, rfl⟩ | ⟨g', cap, cur, rfl, _⟩
    · exact ⟨_, _, rfl⟩
    · exact ⟨_, _, rfl⟩
  cases A with
  | none =>
    have hm := hA rfl
    subst hm
    have hn : news = [] := List.eq_nil_of_length_eq_zero (by simpa using hr.1)
    subst hn
    have hrun : (Builtin.append_ #[t, t] ty #[v, .slice none 0 c]).run P w = .ok v w := by
      rcases hown.2 with ⟨rfl, rfl⟩ | ⟨g, cap, cur, rfl, _, _, hnc, _⟩
      · simp [Builtin.append_, run_underlying ht, Go.sizeOf, typeInfo, hi, Builtin.lenOf, Builtin.firstCells]
      · simp [Builtin.append_, run_underlying ht, Go.sizeOf, typeInfo, hi, Builtin.lenOf, Builtin.firstCells, hnc, storeCells]
    obtain ⟨A', c', rfl⟩ := form w v n xs hown
    exact ⟨A', c', w, hrun, by simpa using hown, Kept.refl _ _, fun g hg => .inl hg⟩
  | some a =>
    obtain ⟨v', w', hrun, h2, h3, _, h5⟩ := run_append_own_at (P := P) w base t ty e i z size bytes ht hi hz hsize hby hzs hsz v n xs hown a m c news hr.1 hr.news h1 h63 hbytes hbase
    obtain ⟨A', c', rfl⟩ := form _ _ _ _ h2
    refine ⟨A', c', w', hrun, h2, kept_grown h3, fun g hg => ?_⟩
    rcases h5 with h5 | h5
    · exact .inl (h5.symm.trans hg)
    · rw [h5] at hg; injection hg with hg; exact .inr hg.symm
theorem wp_append_rd {o : Oper} {a : Act} {K : Act → World → Prop} {Q : Exit → Act → World → Prop} (s x : Operand) (t : TypeId)
    (ho : o.op = .call { callee := .builtin .append, args := #[s, x], argTypes := #[t, t] })
    (base : Nat) (e : TypeId) (i : TypeInfo) (z : Value) (size bytes : Nat) (ht : P.underlying t = some (.slice e)) (hi : P.info? e = some i) (hz : i.zero = some z)
    (hsize : i.size = size) (hby : i.bytes = bytes) (hzs : z.cells.size = size) (hsz : 0 < size)
    (v : Value) (n : Nat) (xs : List Value) (hs : a.eval s = v) (hown : w.ownsRow base e size v n xs)
    (A : Option Addr) (m c : Nat) (news : List Value) (hx : a.eval x = .slice A m c) (hr : Rd w size A m news) (hA : A = none → m = 0) (h1 : ∀ u ∈ news, u.oneCell' = true)
    (N : Nat) (hN : n + m = N) (ys : List Value) (hys : xs ++ news = ys) (h63 : N ≤ maxLen) (hbytes : N * bytes ≤ 140737488355328) (hbase : base ≤ w.heap.size)
    (h : ∀ A' c' w', w'.ownsRow base e size (.slice A' N c') N ys → Kept v.ownBlock.toList w w' → (∀ g, (Value.slice A' N c').ownBlock = some g → v.ownBlock = some g ∨ g = w.heap.size) → K (a.put o.dst (.slice A' N c')) w') : o.wp P a w K Q := by
  obtain ⟨A', c', w', hr, h2, h3, h4⟩ := run_append_rd (P := P) w base t o.type e i z size bytes ht hi hz hsize hby hzs hsz v n xs hown A m c news hr hA h1 N hN ys hys h63 hbytes hbase
  unfold Oper.wp execOp
  simp only [ho, resolve, invoke, builtin, Sem.run_bind, Sem.run_pure, Result.andThen_ok, List.map_toArray, List.map_cons, List.map_nil, hs, hx, hr]
  exact h A' c' w' h2 h3 h4
theorem wpList_append_rd {ops : Array Oper} {rest : List Oper} {o : Oper} {a : Act} {Q : Exit → Act → World → Prop} (hgd : o.guard = none) (s x : Operand) (t : TypeId)
    (ho : o.op = .call { callee := .builtin .append, args := #[s, x], argTypes := #[t, t] })
    (base : Nat) (e : TypeId) (i : TypeInfo) (z : Value) (size bytes : Nat) (ht : P.underlying t = some (.slice e)) (hi : P.info? e = some i) (hz : i.zero = some z)
    (hsize : i.size = size) (hby : i.bytes = bytes) (hzs : z.cells.size = size) (hsz : 0 < size)
    (v : Value) (n : Nat) (xs : List Value) (hs : a.eval s = v) (hown : w.ownsRow base e size v n xs)
    (A : Option Addr) (m c : Nat) (news : List Value) (hx : a.eval x = .slice A m c) (hr : Rd w size A m news) (hA : A = none → m = 0) (h1 : ∀ u ∈ news, u.oneCell' = true)
    (N : Nat) (hN : n + m = N) (ys : List Value) (hys : xs ++ news = ys) (h63 : N ≤ maxLen) (hbytes : N * bytes ≤ 140737488355328) (hbase : base ≤ w.heap.size)
    (h : ∀ A' c' w', w'.ownsRow base e size (.slice A' N c') N ys → Kept v.ownBlock.toList w w' → (∀ g, (Value.slice A' N c').ownBlock = some g → v.ownBlock = some g ∨ g = w.heap.size) → wpList P ops Q rest (a.put o.dst (.slice A' N c')) w') : wpList P ops Q (o :: rest) a w :=
  wpList_plain hgd fun _ hK => wp_append_rd w s x t ho base e i z size bytes ht hi hz hsize hby hzs hsz v n xs hs hown A m c news hx hr hA h1 N hN ys hys h63 hbytes hbase fun A' c' w' h2 h3 h4 => hK _ _ (h A' c' w' h2 h3 h4)
theorem step_append_rd {ops : Array Oper} {o : Oper} {a : Act} {K : Act → World → Prop} {Q : Exit → Act → World → Prop} {E : Prop} (hgd : o.guard = none) (s x : Operand) (t : TypeId)
    (ho : o.op = .call { callee := .builtin .append, args := #[s, x], argTypes := #[t, t] })
    (base : Nat) (e : TypeId) (i : TypeInfo) (z : Value) (size bytes : Nat) (ht : P.underlying t = some (.slice e)) (hi : P.info? e = some i) (hz : i.zero = some z)
    (hsize : i.size = size) (hby : i.bytes = bytes) (hzs : z.cells.size = size) (hsz : 0 < size)
    (v : Value) (n : Nat) (xs : List Value) (hs : a.eval s = v) (hown : w.ownsRow base e size v n xs)
    (A : Option Addr) (m c : Nat) (news : List Value) (hx : a.eval x = .slice A m c) (hr : Rd w size A m news) (hA : A = none → m = 0) (h1 : ∀ u ∈ news, u.oneCell' = true)
    (N : Nat) (hN : n + m = N) (ys : List Value) (hys : xs ++ news = ys) (h63 : N ≤ maxLen) (hbytes : N * bytes ≤ 140737488355328) (hbase : base ≤ w.heap.size)
    (h : ∀ A' c' w', w'.ownsRow base e size (.slice A' N c') N ys → Kept v.ownBlock.toList w w' → (∀ g, (Value.slice A' N c').ownBlock = some g → v.ownBlock = some g ∨ g = w.heap.size) → K (a.put o.dst (.slice A' N c')) w') :
    if Region.wanted o (yielded ops a.tmps) = true then Oper.wp P o a w K Q else E := by
  have hw : Region.wanted o (yielded ops a.tmps) = true := by simp [Region.wanted, hgd]
  rw [if_pos hw]
  exact wp_append_rd w s x t ho base e i z size bytes ht hi hz hsize hby hzs hsz v n xs hs hown A m c news hx hr hA h1 N hN ys hys h63 hbytes hbase h
end
end Go.Df
