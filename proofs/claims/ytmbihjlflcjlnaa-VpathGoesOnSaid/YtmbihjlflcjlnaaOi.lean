/- The queue while one walk is continued edge by edge. No program in sight. -/
import Derived.Test.YtmbihjlflcjlnaaOb
import Derived.Test.YtmbihjlflcjlnaaUd
import Derived.Test.YtmbihjlflcjlnaaOe
import Derived.OwnWalkIn
namespace Go.Df
open Go.RowKit
namespace Sp
theorem flt_pre (es : List Ed) (a : Int) (cs l : List Int) {j m : Nat} (h : j ≤ m) : ∃ r, flt es a cs l m = flt es a cs l j ++ r := by
  induction h with
  | refl => exact ⟨[], by simp⟩
  | @step m _ ih =>
    obtain ⟨r, e⟩ := ih
    rw [flt]
    split
    · exact ⟨r ++ [gi l m], by rw [e, List.append_assoc]⟩
    · exact ⟨r, e⟩
theorem LO_outS (es : List Ed) {x : Int} {i : Nat} (hx : x = i) : ∀ j, Rc.LO es j i = outS es x j
  | 0 => rfl
  | j + 1 => by
    have ih := LO_outS es hx j
    unfold Rc.LO at ih ⊢
    rw [filter_one, outS]
    by_cases e : (ge es j).a = x
    · rw [if_pos (by simp [e, hx]), if_pos e, ← ih, ofNats_snoc]
    · rw [if_neg (by simp; omega), if_neg e, ih]
/-- The queue q behind the first j of the edges l, from the walk x. -/
def grown (es : List Ed) (count : Nat) (q : List It) (x : It) (l : List Int) (j : Nat) : List It := q ++ ((flt es x.at_ x.cs l j).map (nextI es x)).take (count - q.length)
section
variable {es : List Ed} {count : Nat} {q : List It} {x : It} {l : List Int} {j : Nat}
theorem grown_zero : grown es count q x l 0 = q := by simp [grown, flt]
theorem grown_skip (h : (stepS es x.at_ x.cs (gi l j)).1 ≠ 0) : grown es count q x l (j + 1) = grown es count q x l j := by
  unfold grown
  rw [flt, if_neg h]
theorem grown_len : (grown es count q x l j).length = q.length + min (count - q.length) (flt es x.at_ x.cs l j).length := by
  unfold grown
  rw [List.length_append, List.length_take, List.length_map]
theorem grown_more (h : (stepS es x.at_ x.cs (gi l j)).1 = 0) (hc : (grown es count q x l j).length < count) : grown es count q x l (j + 1) = grown es count q x l j ++ [nextI es x (gi l j)] := by
  rw [grown_len] at hc
  unfold grown
  rw [flt, if_pos h, List.map_append, List.take_of_length_le (by rw [List.length_append, List.length_map]; simp; omega), List.take_of_length_le (by rw [List.length_map]; omega), List.append_assoc]
  rfl
theorem grown_full {m : Nat} (hc : count ≤ (grown es count q x l j).length) (hm : j ≤ m) : grown es count q x l m = grown es count q x l j := by
  rw [grown_len] at hc
  obtain ⟨r, e⟩ := flt_pre es x.at_ x.cs l hm
  unfold grown
  rw [e, List.map_append, List.take_append_of_le_length (by rw [List.length_map]; omega)]
theorem bfs_grown {most i : Nat} (hq : q[i]? = some x) (hp : x.pa.length ≠ most) : bfsS es most count q i = grown es count q x (outS es x.at_ es.length) (outS es x.at_ es.length).length := by
  unfold bfsS
  rw [hq]
  dsimp only
  rw [if_neg hp]
  rfl
theorem bfs_most {most i : Nat} (hq : q[i]? = some x) (hp : x.pa.length = most) : bfsS es most count q i = q := by
  unfold bfsS
  rw [hq]
  dsimp only
  rw [if_pos hp]
end
theorem bfsQ_len {es : List Ed} {most count : Nat} {a : Int} (hc : 1 ≤ count) : ∀ i, (bfsQ es most count a i).length ≤ count
  | 0 => hc
  | i + 1 => by
    have ih := bfsQ_len (es := es) (most := most) (a := a) hc i
    show (bfsS es most count (bfsQ es most count a i) i).length ≤ count
    unfold bfsS
    split
    · exact ih
    · split
      · exact ih
      · rw [List.length_append, List.length_take]; omega
theorem run_in {ns : List Nd} {es : List Ed} {m : Int} (hs : superErr ns es m = 0) : ∀ (p : List Int) (a : Int) (cs : List Int), 0 ≤ a ∧ a < ns.length → (runS es a cs p).1 = 0 → 0 ≤ (runS es a cs p).2.1 ∧ (runS es a cs p).2.1 < ns.length
  | [], a, cs, ha, _ => ha
  | k :: r, a, cs, ha, h => by
    by_cases h0 : (stepS es a cs k).1 = 0
    · rw [runS_ok2 h0] at h ⊢
      refine run_in hs r _ _ ?_ h
      obtain ⟨x, _, hx, _, h1⟩ := step_ok2 h0
      have := If.sup_edge hs hx
      rcases h1 with ⟨_, _, _, e⟩ | ⟨_, e⟩ | ⟨_, _, _, e⟩ <;> rw [e] <;> constructor <;> dsimp only <;> omega
    · rw [runS_bad2 h0] at h
      exact absurd h h0
theorem told_mem {es : List Ed} {count : Nat} {a : Int} : ∀ (n : Nat) (x : It), x ∈ toldI es count a n → ∃ m, m < n ∧ x ∈ (itI es count a m).2
  | 0, x, h => by simp [toldI] at h
  | n + 1, x, h => by
    rw [toldI_succ] at h
    rcases List.mem_append.1 h with h | h
    · obtain ⟨m, h1, h2⟩ := told_mem n x h
      exact ⟨m, by omega, h2⟩
    · exact ⟨n, by omega, List.mem_of_mem_take h⟩
/-- What is read from the queue is a valid path, with where it ends. -/
theorem read_run {ns : List Nd} {es : List Ed} {m : Int} (hs : superErr ns es m = 0) {count most : Nat} {a : Int} (ha : 0 ≤ a ∧ a < ns.length) (hc : 1 ≤ count) {i : Nat} (h : i < (toldI es count a (most + 1)).length) {x : It} (hx : (bfsQ es most count a i)[i]? = some x) :
    runS es a [] x.pa = (0, x.at_, x.cs) ∧ 0 ≤ x.at_ ∧ x.at_ < ns.length ∧ x.pa.length ≤ most := by
  rw [bfs_read hc h] at hx
  obtain ⟨n, hn, hm⟩ := told_mem _ x (List.mem_of_getElem? hx)
  have h1 := itI_sound n x hm
  have h2 := run_in hs x.pa a [] ha (by rw [h1])
  rw [h1] at h2
  have h3 := (itI_path n x hm).1
  exact ⟨h1, h2.1, h2.2, by omega⟩
end Sp
/-- The paths that have come are those of the queue. -/
def PreV (vs : List Value) (pre : List (Option Addr × Nat × Nat)) (i : Nat) : Prop := pre.length = i ∧ ∀ j x, pre[j]? = some x → vs[j * 3]? = some (.slice x.1 x.2.1 x.2.2)
theorem PreV.more {vs r : List Value} {pre : List (Option Addr × Nat × Nat)} {i : Nat} (h : PreV vs pre i) : PreV (vs ++ r) pre i :=
  ⟨h.1, fun j x hx => by
    have h1 := h.2 j x hx
    have h2 : j * 3 < vs.length := by
      rcases Nat.lt_or_ge (j * 3) vs.length with h9 | h9
      · exact h9
      · rw [List.getElem?_eq_none h9] at h1; cases h1
    rw [List.getElem?_append_left h2]
    exact h1⟩
theorem PreV.snoc {vs : List Value} {pre : List (Option Addr × Nat × Nat)} {i : Nat} {x : Option Addr × Nat × Nat} (h : PreV vs pre i) (hx : vs[i * 3]? = some (.slice x.1 x.2.1 x.2.2)) : PreV vs (pre ++ [x]) (i + 1) :=
  ⟨by simp [h.1], fun j y hy => by
    rcases Nat.lt_or_ge j pre.length with h1 | h1
    · rw [List.getElem?_append_left h1] at hy
      exact h.2 j y hy
    · rw [List.getElem?_append_right h1] at hy
      have h2 : j - pre.length = 0 := by
        rcases Nat.eq_zero_or_pos (j - pre.length) with h9 | h9
        · exact h9
        · rw [List.getElem?_eq_none (by simp; omega)] at hy; cases hy
      rw [h2] at hy
      have hy : x = y := by simpa using hy
      subst hy
      obtain rfl : j = i := by have := h.1; omega
      exact hx⟩
/-- The paths have come. -/
def Come (L : List (List Int)) (xs : List (Option Addr × Nat × Nat)) (w : World) : Prop := xs.length = L.length ∧ ∀ (i : Nat) (l : List Int), L[i]? = some l → ∃ x, xs[i]? = some x ∧ Ints w x.1 x.2.1 l
theorem come_end {base : Nat} {ti : TypeId} {w : World} {vs : List Value} {q : List Sp.It} {L : List (List Int)} {pre : List (Option Addr × Nat × Nat)} (hq : QC base ti w vs q) (hL : q.map Sp.It.pa = L) (hp : PreV vs pre L.length) : Come L pre w := by
  refine ⟨hp.1, fun i l hl => ?_⟩
  subst hL
  rw [List.getElem?_map] at hl
  obtain ⟨x, hx, rfl⟩ := Option.map_eq_some_iff.1 hl
  obtain ⟨A, n, c, P, h1, _, _, h4, _⟩ := hq.2 i x hx
  have hi : i < pre.length := by
    rw [hp.1, List.length_map]
    rcases Nat.lt_or_ge i q.length with h9 | h9
    · exact h9
    · rw [List.getElem?_eq_none h9] at hx; cases hx
  have h5 := hp.2 i _ (List.getElem?_eq_getElem hi)
  rw [h1] at h5
  injection h5 with h5
  injection h5 with e1 e2 e3
  exact ⟨_, List.getElem?_eq_getElem hi, by rw [← e1, ← e2]; exact h4.1.1⟩
/-- The world is named, within a fence. -/
theorem wpIn_named {F : Fence} {d : Nat} {P : Program} {c : Code} {Q : Exit → Act → World → Prop} {a : Act} {w : World} (S : World → Prop) (h0 : S w) (h : ∀ W, S W → c.wpIn F d P Q a W) : c.wpIn F d P Q a w := h w h0
theorem Rd.newL (w : World) (cs : List Value) (t : TypeId) (k b : Nat) (hb : b = w.heap.size) (hk : cs.length = k) : Rd (w.alloc (.cells cs.toArray t)) k (some ⟨b, 0, none⟩) 1 cs := by
  subst hb
  refine ⟨by omega, fun _ => ⟨_, _, rfl, by simp, fun j _ => ?_⟩⟩
  rw [Nat.zero_add, World.cell?_alloc_new]
  simp
/-- append, within a fence. -/
theorem wpListIn_append_rd {F : Fence} {d : Nat} {P : Program} (w : World) {ops : Array Oper} {rest : List Oper} {o : Oper} {a : Act} {Q : Exit → Act → World → Prop} (hgd : o.guard = none) (s x : Operand) (t : TypeId)
    (ho : o.op = .call { callee := .builtin .append, args := #[s, x], argTypes := #[t, t] })
    (base : Nat) (e : TypeId) (i : TypeInfo) (z : Value) (size bytes : Nat) (ht : P.underlying t = some (.slice e)) (hi : P.info? e = some i) (hz : i.zero = some z)
    (hsize : i.size = size) (hby : i.bytes = bytes) (hzs : z.cells.size = size) (hsz : 0 < size)
    (v : Value) (n : Nat) (xs : List Value) (hs : a.eval s = v) (hown : w.ownsRow base e size v n xs)
    (A : Option Addr) (m c : Nat) (news : List Value) (hx : a.eval x = .slice A m c) (hr : Rd w size A m news) (hA : A = none → m = 0) (h1 : ∀ u ∈ news, u.oneCell' = true)
    (N : Nat) (hN : n + m = N) (ys : List Value) (hys : xs ++ news = ys) (h63 : N ≤ maxLen) (hbytes : N * bytes ≤ 140737488355328) (hbase : base ≤ w.heap.size)
    (h : ∀ A' c' w', w'.ownsRow base e size (.slice A' N c') N ys → Kept v.ownBlock.toList w w' → (∀ g, (Value.slice A' N c').ownBlock = some g → v.ownBlock = some g ∨ g = w.heap.size) → wpListIn F d P ops Q rest (a.put o.dst (.slice A' N c')) w') : wpListIn F d P ops Q (o :: rest) a w := by
  refine wpListIn_plain hgd fun K hK => ?_
  obtain ⟨A', c', w', hrun, h2, h3, h4⟩ := run_append_rd (P := P) w base t o.type e i z size bytes ht hi hz hsize hby hzs hsz v n xs hown A m c news hr hA h1 N hN ys hys h63 hbytes hbase
  unfold Oper.wpIn
  refine ⟨?_, ?_⟩
  · simp [Oper.about, ho, resolve, Target.leads, Sem.run_pure]
  · rw [Oper.semAt_plain F _ _ (by rw [ho]; intro c hc'; cases hc')]
    simp [execOp, ho, resolve, invoke, builtin, hs, hx, hrun, Result.andThen]
    exact hK _ _ (h A' c' w' h2 h3 h4)
end Go.Df
