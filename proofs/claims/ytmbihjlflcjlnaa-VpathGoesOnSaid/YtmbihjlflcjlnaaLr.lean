/- Rows: what an argument reads as behind a call that leaves all that was there; slices of numbers that came in. No program in sight. -/
import Derived.Test.YtmbihjlflcjlnaaLa
import Derived.ProofKit
import Derived.Lib.SmallJoins
import Derived.Deep.Slices
namespace Go.Df
open Go.RowKit Go.ChangeShapes Go.WideShapes

theorem mapM_later {α β : Type} {f g : α → Option β} : ∀ {l : List α} {r : List β}, (∀ a ∈ l, ∀ b, f a = some b → g a = some b) → l.mapM f = some r → l.mapM g = some r
  | [], r, _, h => h
  | a :: l, r, hfg, h => by
    rw [List.mapM_cons] at h ⊢
    cases ha : f a with
    | none => simp [ha] at h
    | some b =>
      cases hl : l.mapM f with
      | none => simp [ha, hl] at h
      | some bs =>
        rw [hfg a (by simp) b ha, mapM_later (fun x hx => hfg x (by simp [hx])) hl]
        simpa [ha, hl] using h
theorem block_add (a : Addr) (n : Nat) : (a.add n).block = a.block := by unfold Addr.add; split <;> rfl
theorem cell_lt {w : World} {p : Addr} {v : Value} (h : w.cell? p = some v) : p.block < w.heap.size := by
  rcases Nat.lt_or_ge p.block w.heap.size with h1 | h1
  · exact h1
  · simp [World.cell?, Array.getElem?_eq_none h1] at h
section
variable {H : Type} {enc : TypeId × Value → H} {P : Program} {w w' : World} {base : Nat} {held : Bool}
theorem cells_later (hb : ∀ b, b < w.heap.size → w'.heap[b]? = w.heap[b]?) {a : Addr} {n : Nat} {cs : List Value} (h : w.cells? base a n = some cs) : w'.cells? base a n = some cs := by
  unfold World.cells? at h ⊢
  split at h
  · rename_i h1
    rw [if_pos h1]
    refine mapM_later (fun i _ v hv => ?_) h
    rw [World.cell?_of_block (w := w) (hb _ (cell_lt hv))]; exact hv
  · cases h
theorem cells_lt {a : Addr} {n : Nat} {cs : List Value} (h : w.cells? base a n = some cs) (hn : 0 < n) : a.block < w.heap.size := by
  unfold World.cells? at h
  split at h
  · obtain ⟨m, rfl⟩ : ∃ m, n = m + 1 := ⟨n - 1, by omega⟩
    rw [List.range_succ_eq_map, List.mapM_cons] at h
    cases hv : w.cell? (a.add 0) with
    | none => simp [hv] at h
    | some v => have := cell_lt hv; rwa [block_add] at this
  · cases h
theorem bind_map {α β γ : Type} {o : Option α} {g : α → Option β} {f : β → γ} {x : γ} (h : (o.bind g).map f = some x) : ∃ c y, o = some c ∧ g c = some y ∧ f y = x := by
  cases o with
  | none => simp at h
  | some c =>
    cases hg : g c with
    | none => simp [hg] at h
    | some y => exact ⟨c, y, rfl, hg, by simpa [hg] using h⟩
theorem map_some {β γ : Type} {o : Option β} {f : β → γ} {x : γ} (h : o.map f = some x) : ∃ y, o = some y ∧ f y = x := by
  cases o with
  | none => simp at h
  | some y => exact ⟨y, rfl, by simpa using h⟩
/-- A type whose parts are among the first N types; no slice of elements without cells. -/
def closedB (P : Program) (N : Nat) (t : TypeId) : Bool :=
  match P.underlying t with
  | some (.slice e) => decide (e < N) && decide (0 < P.cellsOf e)
  | some (.pointer e) => decide (e < N)
  | some (.struct fs) => fs.toList.all (fun f => decide (f.type < N))
  | some (.array _ e) => decide (e < N)
  | some (.map _ e) => decide (e < N)
  | _ => true
set_option maxHeartbeats 1000000 in
/-- What reads as a datum reads so in a later world. -/
theorem trod_later {N : Nat} (hz : (List.range N).all (closedB P N) = true) (hb : ∀ b, b < w.heap.size → w'.heap[b]? = w.heap[b]?) :
    ∀ (fuel : Nat) (t : TypeId) (cs : List Value) (x : DataW H × List MemPlace), t < N → DataW.trod enc P w base (fun _ => true) true fuel t cs = some x → DataW.trod enc P w' base (fun b => decide (b < w.heap.size)) true fuel t cs = some x := by
  rw [List.all_eq_true] at hz
  intro fuel
  induction fuel with
  | zero => intro t cs x _ h; simp [DataW.trod] at h
  | succ fuel ih =>
    intro t cs x htN h
    have hcl := hz t (by simpa using htN)
    unfold closedB at hcl
    unfold DataW.trod at h ⊢
    split at h
    all_goals (try exact h)
    · rename_i e a heq
      rw [heq] at hcl
      obtain ⟨c, y, hc, hy, rfl⟩ := bind_map h
      rw [cells_later hb hc]
      simp only [Option.bind_some]
      rw [ih _ _ _ (by simpa using hcl) hy]; rfl
    · rename_i e a len cap heq
      rw [heq] at hcl
      simp only [Bool.and_eq_true, decide_eq_true_eq] at hcl
      have he := hcl.2
      dsimp only at h ⊢
      by_cases hc : base ≤ a.block ∧ len ≤ cap ∧ cap ≤ maxLen
      · rw [if_pos hc] at h ⊢
        have hel : ∀ i y, (w.cells? base (a.add (i * P.cellsOf e)) (P.cellsOf e)).bind (DataW.trod enc P w base (fun _ => true) true fuel e) = some y → (w'.cells? base (a.add (i * P.cellsOf e)) (P.cellsOf e)).bind (DataW.trod enc P w' base (fun b => decide (b < w.heap.size)) true fuel e) = some y ∧ a.block < w.heap.size := by
          intro i y hy
          cases hcs : w.cells? base (a.add (i * P.cellsOf e)) (P.cellsOf e) with
          | none => simp [hcs] at hy
          | some c =>
            rw [hcs] at hy
            rw [cells_later hb hcs]
            refine ⟨ih _ _ _ hcl.1 hy, ?_⟩
            have := cells_lt hcs he
            rwa [block_add] at this
        cases h1 : (List.range len).mapM (fun i => (w.cells? base (a.add (i * P.cellsOf e)) (P.cellsOf e)).bind (DataW.trod enc P w base (fun _ => true) true fuel e)) with
        | none => rw [h1] at h; simp at h
        | some elems =>
          rw [h1] at h
          rw [mapM_later (fun i _ y hy => (hel i y hy).1) h1]
          simp only [Option.bind_some, if_true] at h ⊢
          obtain ⟨rest, hr, rfl⟩ := map_some h
          have hr' : (if decide (a.block < w.heap.size) = true then (List.range (cap - len)).mapM (fun j => (w'.cells? base (a.add ((len + j) * P.cellsOf e)) (P.cellsOf e)).bind (DataW.trod enc P w' base (fun b => decide (b < w.heap.size)) true fuel e)) else some []) = some rest := by
            by_cases hlt : a.block < w.heap.size
            · rw [if_pos (by simpa using hlt)]
              exact mapM_later (fun j _ y hy => (hel (len + j) y hy).1) hr
            · rw [if_neg (by simpa using hlt)]
              rcases Nat.eq_zero_or_pos (cap - len) with h0 | h0
              · rw [h0] at hr; simpa using hr
              · exfalso
                obtain ⟨m, hm⟩ : ∃ m, cap - len = m + 1 := ⟨cap - len - 1, by omega⟩
                rw [hm, List.range_succ_eq_map, List.mapM_cons] at hr
                cases hv : (w.cells? base (a.add ((len + 0) * P.cellsOf e)) (P.cellsOf e)).bind (DataW.trod enc P w base (fun _ => true) true fuel e) with
                | none => simp only [hv] at hr; simp at hr
                | some y => exact hlt (hel (len + 0) y hv).2
          rw [hr']; rfl
      · rw [if_neg hc] at h; cases h
    · rename_i fs heq
      split at h
      · rename_i hc
        rw [if_pos hc]
        obtain ⟨ys, hy, rfl⟩ := map_some h
        rw [heq] at hcl
        rw [mapM_later (fun f hf y hy => ih _ _ _ (by have := List.all_eq_true.1 hcl f hf; simpa using this) hy) hy]; rfl
      · cases h
    · rename_i n e heq
      split at h
      · rename_i hc
        rw [if_pos hc]
        obtain ⟨ys, hy, rfl⟩ := map_some h
        rw [heq] at hcl
        rw [mapM_later (fun f _ y hy => ih _ _ _ (by simpa using hcl) hy) hy]; rfl
      · cases h
    · rename_i k e b heq
      rw [heq] at hcl
      cases hm : w.heap[b]? with
      | none => simp [hm] at h
      | some o =>
        rw [hb b (by
          rcases Nat.lt_or_ge b w.heap.size with h1 | h1
          · exact h1
          · rw [Array.getElem?_eq_none h1] at hm; cases hm), hm]
        rw [hm] at h
        cases o with
        | map es clock =>
          dsimp only at h ⊢
          split at h
          · rename_i hc
            rw [if_pos hc]
            cases h1 : es.toList.mapM (fun x => (keyOf P k x.key).bind fun key => if x.val.formed P e then (DataW.trod enc P w base (fun _ => true) true fuel e x.val.cells.toList).map fun y => ((key, y.1), y.2) else none) with
            | none => rw [h1] at h; simp at h
            | some entries =>
              rw [h1] at h
              rw [mapM_later (fun x _ y hy => ?_) h1]
              · exact h
              · cases hk : keyOf P k x.key with
                | none => simp [hk] at hy
                | some key =>
                  rw [hk] at hy
                  simp only [Option.bind_some] at hy ⊢
                  split at hy
                  · rename_i hf
                    rw [if_pos hf]
                    obtain ⟨z, hz', rfl⟩ := map_some hy
                    rw [ih _ _ _ (by simpa using hcl) hz']; rfl
                  · cases hy
          · cases h
        | _ => simp at h
theorem trodAll_later {N : Nat} (hz : (List.range N).all (closedB P N) = true) (hb : ∀ b, b < w.heap.size → w'.heap[b]? = w.heap[b]?) :
    ∀ {ts : List TypeId} {vs : List Value} {ds : List (DataW H)} {ps : List MemPlace}, (∀ t ∈ ts, t < N) → DataW.TrodAll enc P w base (fun _ => true) true ts vs ds ps → DataW.TrodAll enc P w' base (fun b => decide (b < w.heap.size)) true ts vs ds ps
  | [], [], [], _, _, h => h
  | _ :: _, _ :: _, _ :: _, _, ht, ⟨p, q, ⟨fuel, h1⟩, h2, h3⟩ => ⟨p, q, ⟨fuel, trod_later hz hb fuel _ _ _ (ht _ (by simp)) h1⟩, trodAll_later hz hb (fun t h => ht t (by simp [h])) h2, h3⟩
/-- The post of a law that returned true and left all that was there. -/
theorem post_true {f : Func} {s : ChangeSpec} {fresh handsOn : Bool} {W W' : World} {args : Array Value} {ds gs : List (DataW H)} {before : List MemPlace} {tb : TypeId}
    {N : Nat} (hz : (List.range N).all (closedB P N) = true) (hpN : f.params.toList.all (fun t => decide (t < N)) = true) (htb : P.underlying tb = some .bool) (hrt : f.resultTypes = #[tb]) (hv : s.vars = [])
    (hs : s.fn H ds = { results := [.lit (.bool true)], args := ds })
    (hW : DataW.Whole enc P f.params.toList s.vars false W args.toList ds gs before) (hb : Below W.heap.size W W') : s.post enc P f false fresh handsOn false W args (.bool true) W' := by
  have hW' := hW
  obtain ⟨p, q, hA, hV, hp, _, _⟩ := hW
  rw [hv] at hV
  obtain ⟨rfl, rfl⟩ := trodVars_none hV
  refine ⟨ds, [], before, [], p, [], hW', ?_, ?_, ?_, hb.frame _, fun h => by cases h⟩
  · rw [hrt, List.append_nil, hs]
    exact trodAll_mk1 (shut_bool htb true)
  · rw [List.append_nil, hs]
    exact trodAll_later hz (fun b hlt => hb.block b hlt) (fun t ht => by have := List.all_eq_true.1 hpN t ht; simpa using this) hA
  · rw [hv, List.append_nil, hs]
    rfl
/-- A slice of numbers that came in. -/
theorem open_SIn {t e : TypeId} {fuel : Nat} {v : Value} {x : DataW H × List MemPlace} (ht : P.underlying t = some (.slice e)) (he : P.underlying e = some (.int .i64)) (hC : P.cellsOf e = 1)
    (h : DataW.trod enc P w base (fun _ => true) held fuel t [v] = some x) : ∃ A n c xs, v = .slice A n c ∧ SIn w A n c xs ∧ Fit xs := by
  rcases Go.Deep.open_slice ht h with ⟨h0, _⟩ | ⟨a, len, cap, m, n, D, Pl, hcs, hbb, hl, hm, hmm, hx, hi⟩
  · injection h0 with h0
    exact ⟨none, 0, 0, [], h0, SIn.nil w, fun x hx => by cases hx⟩
  · injection hcs with hcs
    subst hcs
    have hread : ∀ i, i < len → ∃ k : Int, w.cell? (a.add i) = some (.int .i64 k) ∧ -9223372036854775808 ≤ k ∧ k ≤ 9223372036854775807 := by
      intro i hil
      obtain ⟨cs', hc, ht'⟩ := hi i (by rw [hmm]; simp; omega)
      rw [hC] at hc
      obtain ⟨k, hk, _, wk⟩ := DataW.trod_int he ht'
      subst hk
      have hbd := bounds_i64 wk
      refine ⟨k, ?_, by omega, by omega⟩
      unfold World.cells? at hc
      split at hc
      · have e1 : (a.add (i * 1)).add 0 = a.add i := by simp [Addr.add]
        rw [show List.range 1 = [0] from rfl, List.mapM_cons, e1] at hc
        cases hv : w.cell? (a.add i) with
        | none => rw [hv] at hc; simp at hc
        | some u =>
          rw [hv] at hc
          simp at hc
          rw [hc]
      · cases hc
    have hex : ∃ f : Nat → Int, ∀ i, i < len → w.cell? (a.add i) = some (.int .i64 (f i)) ∧ -9223372036854775808 ≤ f i ∧ f i ≤ 9223372036854775807 :=
      ⟨fun i => if hil : i < len then (hread i hil).choose else 0, fun i hil => by simp only [dif_pos hil]; exact (hread i hil).choose_spec⟩
    obtain ⟨f, hf⟩ := hex
    refine ⟨some a, len, cap, (List.range len).map f, rfl, ⟨⟨by simp, fun hp => ?_⟩, hl, by unfold maxLen at hm; omega, fun h => by cases h⟩, ?_⟩
    · obtain ⟨b, o, sp⟩ := a
      have h0 := (hf 0 hp).1
      have hsp : sp = none := by
        cases sp with
        | none => rfl
        | some s =>
          exfalso
          simp only [World.cell?, Addr.add] at h0
          split at h0 <;> simp at h0
      subst hsp
      refine ⟨b, o, rfl, cell_lt (p := ⟨b, o, none⟩) (by have h9 := h0; rw [add_lit] at h9; exact h9), fun i hil => ?_⟩
      rw [← add_lit, (hf i hil).1, gi_lt (by simpa using hil)]
      simp
    · intro x hx
      simp at hx
      obtain ⟨i, hil, rfl⟩ := hx
      exact (hf i hil).2
end
end Go.Df
