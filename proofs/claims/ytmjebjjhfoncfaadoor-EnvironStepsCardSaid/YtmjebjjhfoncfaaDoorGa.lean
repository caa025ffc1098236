/- EnvironSteps in plain words: the values along a path with one more edge follow from those along the path. -/
import Derived.Test.YtmjebjjhfoncfaaDoorEo
namespace Go.Proofs.YtmjebjjhfoncfaaDoor
open Go.RowKit Go.Df
theorem gi_take {l : List Int} {n j : Nat} (h : j < n) : gi (l.take n) j = gi l j := by
  simp [gi, h]
theorem runJ_take {me : Xf.V → Xf.V → Xf.V} {ap : Xf.X → Xf.V → Xf.V} {es : List Sp.Ed} {ls : List (List Sp.Xp)} {sd : List Sp.Vs} {mn : Int} {path : List Int} {n : Nat} : ∀ (j : Nat), j ≤ n → runJ me ap es ls sd mn (path.take n) j = runJ me ap es ls sd mn path j
  | 0, _ => rfl
  | j + 1, h => by rw [runJ, runJ, gi_take (by omega), runJ_take j (by omega)]
theorem runS_take {es : List Sp.Ed} : ∀ (path : List Int) (n : Nat) {a : Int} {cs : List Int}, (Sp.runS es a cs path).1 = 0 → (Sp.runS es a cs (path.take n)).1 = 0
  | [], n, _, _, _ => by rw [List.take_nil]; rfl
  | k :: r, 0, _, _, _ => rfl
  | k :: r, n + 1, a, cs, h => by
    rw [List.take_succ_cons]
    rw [Sp.runS] at h ⊢
    split at h
    · rename_i h0; exact absurd h h0
    · rename_i h0
      rw [if_neg h0]
      exact runS_take r n h
theorem follow_take {ns : List Sp.Nd} {es : List Sp.Ed} {mn fr : Int} {path : List Int} (n : Nat) (h : (Sp.followS ns es mn fr path).1 = 0) : (Sp.followS ns es mn fr (path.take n)).1 = 0 := by
  unfold Sp.followS at h ⊢
  split at h
  · rename_i h0; exact absurd h h0
  · rename_i h0
    rw [if_neg h0]
    split at h
    · cases h
    · rw [if_neg (by rw [List.length_take]; omega)]
      exact runS_take path n h
theorem follow_chk {ns : List Sp.Nd} {es : List Sp.Ed} {mn fr : Int} {path : List Int} (h : (Sp.followS ns es mn fr path).1 = 0) : (Sp.runS es fr [] path).1 = 0 := by
  unfold Sp.followS at h
  split at h
  · rename_i h0; exact absurd h h0
  · split at h
    · cases h
    · exact h
/-- The pairs and seeds of a valid problem. -/
theorem ide_pairs {ns : List Sp.Nd} {es : List Sp.Ed} {mn F : Int} {ls : List (List Sp.Xp)} {sd : List Sp.Vs} (h : Sp.ideErr ns es mn F ls sd = 0) :
    (∀ k, k < ls.length → Sp.pairsErr F (Sp.gl ls k) = 0) ∧ ∀ j, j < sd.length → Sp.seedErr ns.length F sd j = 0 := by
  unfold Sp.ideErr at h
  by_cases h1 : Sp.superErr ns es mn = 0
  case neg => rw [if_pos h1] at h; exact absurd h h1
  rw [if_neg (not_not_intro h1)] at h
  by_cases h2 : F < 1 ∨ 1024 < F
  · rw [if_pos h2] at h; cases h
  rw [if_neg h2] at h
  by_cases h3 : ls.length = es.length
  case neg => rw [if_pos h3] at h; cases h
  rw [if_neg (not_not_intro h3)] at h
  by_cases h4 : Sp.fe (fun i => Sp.pairsErr F (Sp.gl ls i)) 0 ls.length = 0
  case neg => rw [if_pos h4] at h; exact absurd h h4
  rw [if_neg (not_not_intro h4)] at h
  exact ⟨fun k hk => fe_zero _ _ h4 k (Nat.zero_le _) (by omega), fun j hj => fe_zero _ _ h j (Nat.zero_le _) (by omega)⟩
theorem meet_bot (u : Xf.V) : Xf.rmeetV ⟨2, 0⟩ u = ⟨2, 0⟩ := by
  unfold Xf.rmeetV
  rw [if_neg (by simp)]
  split <;> rfl
theorem meet_top (u : Xf.V) : Xf.rmeetV ⟨0, 0⟩ u = u := by
  unfold Xf.rmeetV
  rw [if_pos rfl]
/-- Zero stays LBot. -/
theorem pr_zero {F : Int} {ps : List Sp.Xp} {l : Nat → Xf.V} (hp : Sp.pairsErr F ps = 0) (h0 : l 0 = ⟨2, 0⟩) : ∀ (j : Nat), prS Xf.rmeetV Xf.rapply ps l (j + 1) 0 = ⟨2, 0⟩
  | 0 => by
    have hf : Sp.gx ps 0 = ⟨0, 0, 2, 0, 0⟩ := by
      unfold Sp.pairsErr at hp
      split at hp
      · cases hp
      · split at hp
        · rename_i h9; exact absurd hp h9
        · split at hp
          · cases hp
          · rename_i h9
            exact Decidable.byContradiction fun h8 => h9 (.inr h8)
    rw [prS, hf]
    simp [prS, h0]
    rfl
  | j + 1 => by
    rw [prS, pr_zero hp h0 j]
    split
    · exact meet_bot _
    · rfl
theorem pairs_pos {F : Int} {ps : List Sp.Xp} (hp : Sp.pairsErr F ps = 0) : 0 < ps.length := by
  unfold Sp.pairsErr at hp
  split at hp
  · cases hp
  · split at hp
    · rename_i h9; exact absurd hp h9
    · split at hp
      · cases hp
      · omega
theorem met_zero {me : Xf.V → Xf.V → Xf.V} {sd : List Sp.Vs} {nd : Int} {f : Nat → Xf.V} (hs : ∀ j, j < sd.length → 1 ≤ (Sp.gs sd j).f) : ∀ (j : Nat), j ≤ sd.length → metS me sd nd f j 0 = f 0
  | 0, _ => rfl
  | j + 1, h => by
    rw [metS, if_neg, met_zero hs j (by omega)]
    rintro ⟨-, h2⟩
    have := hs j (by omega)
    omega
theorem run_zero {es : List Sp.Ed} {F : Int} {ls : List (List Sp.Xp)} {sd : List Sp.Vs} {mn : Int} {path : List Int} (hs : ∀ j, j < sd.length → 1 ≤ (Sp.gs sd j).f) (hp : ∀ k, k < ls.length → Sp.pairsErr F (Sp.gl ls k) = 0) (hi : ∀ j, j < path.length → (gi path j).toNat < ls.length) :
    ∀ (j : Nat), j ≤ path.length → runJ Xf.rmeetV Xf.rapply es ls sd mn path j 0 = ⟨2, 0⟩
  | 0, _ => by rw [runJ, met_zero hs _ (Nat.le_refl _)]; rfl
  | j + 1, h => by
    have h1 := hp _ (hi j (by omega))
    rw [runJ, afterS, met_zero hs _ (Nat.le_refl _)]
    obtain ⟨m, hm⟩ : ∃ m, (Sp.gl ls (gi path j).toNat).length = m + 1 := ⟨_, (Nat.succ_pred_eq_of_pos (pairs_pos h1)).symm⟩
    rw [hm]
    exact pr_zero h1 (run_zero hs hp hi j (by omega)) m
/-- Meeting seeds in, as a fold. -/
theorem met_fold {me : Xf.V → Xf.V → Xf.V} {sd : List Sp.Vs} {nd : Int} {f : Nat → Xf.V} {i : Nat} : ∀ (j : Nat), j ≤ sd.length → metS me sd nd f j i = (sd.take j).foldl (fun acc s => if s.n = nd ∧ i = s.f.toNat then me acc ⟨s.k, s.v⟩ else acc) (f i)
  | 0, _ => by rw [List.take_zero]; rfl
  | j + 1, h => by
    rw [List.take_succ_eq_append_getElem h, List.foldl_append, List.foldl_cons, List.foldl_nil, ← met_fold j (by omega), metS, Sp.gs_lt h]
theorem met_all {me : Xf.V → Xf.V → Xf.V} {sd : List Sp.Vs} {nd : Int} {f : Nat → Xf.V} {i : Nat} : metS me sd nd f sd.length i = sd.foldl (fun acc s => if s.n = nd ∧ i = s.f.toNat then me acc ⟨s.k, s.v⟩ else acc) (f i) := by
  rw [met_fold _ (Nat.le_refl _), List.take_length]
theorem pr_congr {me : Xf.V → Xf.V → Xf.V} {ap : Xf.X → Xf.V → Xf.V} {F : Nat} {ps : List Sp.Xp} {l l' : Nat → Xf.V} (hl : ∀ i, i < F → l i = l' i) (hp : ∀ j, j < ps.length → (Sp.gx ps j).i.toNat < F) : ∀ (j : Nat), j ≤ ps.length → prS me ap ps l j = prS me ap ps l' j
  | 0, _ => rfl
  | j + 1, h => by
    funext i
    rw [prS, prS, pr_congr hl hp j (by omega), hl _ (hp j (by omega))]
/-- The first seeds of the problem of one edge: the values before the edge. -/
def sdA (l : Nat → Xf.V) (j : Nat) : List Sp.Vs := (List.range j).map fun d => ⟨0, ((d + 1 : Nat) : Int), (l (d + 1)).k, (l (d + 1)).n⟩
/-- Its other seeds: those at the edge's end. -/
def sdB (sd : List Sp.Vs) (nd : Int) (j : Nat) : List Sp.Vs := ((sd.take j).filter fun s => s.n = nd).map fun s => ⟨1, s.f, s.k, s.v⟩
def nsQ : List Sp.Nd := [⟨0, 1, -1⟩, ⟨0, 2, 0⟩, ⟨0, 3, -1⟩, ⟨0, 4, -1⟩]
def esQ : List Sp.Ed := [⟨0, 1, 1, -1⟩]
theorem supQ : Sp.superErr nsQ esQ 0 = 0 := by kernel_rfl
theorem folQ : (Sp.followS nsQ esQ 0 0 [0]).1 = 0 := by kernel_rfl
theorem sdA_len (l : Nat → Xf.V) (j : Nat) : (sdA l j).length = j := by simp [sdA]
theorem sdA_succ (l : Nat → Xf.V) (j : Nat) : sdA l (j + 1) = sdA l j ++ [⟨0, ((j + 1 : Nat) : Int), (l (j + 1)).k, (l (j + 1)).n⟩] := by
  simp [sdA, List.range_succ]
theorem sdB_no {sd : List Sp.Vs} {nd : Int} {j : Nat} (h : j < sd.length) (hn : (Sp.gs sd j).n ≠ nd) : sdB sd nd (j + 1) = sdB sd nd j := by
  rw [Sp.gs_lt h] at hn
  unfold sdB
  rw [List.take_succ_eq_append_getElem h, List.filter_append]
  simp [hn]
theorem sdB_yes {sd : List Sp.Vs} {nd : Int} {j : Nat} (h : j < sd.length) (hn : (Sp.gs sd j).n = nd) : sdB sd nd (j + 1) = sdB sd nd j ++ [⟨1, (Sp.gs sd j).f, (Sp.gs sd j).k, (Sp.gs sd j).v⟩] := by
  rw [Sp.gs_lt h] at hn ⊢
  unfold sdB
  rw [List.take_succ_eq_append_getElem h, List.filter_append]
  simp [hn]
theorem sdB_len (sd : List Sp.Vs) (nd : Int) (j : Nat) : (sdB sd nd j).length ≤ j := by
  unfold sdB
  rw [List.length_map]
  refine Nat.le_trans (List.length_filter_le _ _) ?_
  rw [List.length_take]
  omega
theorem foldA {l : Nat → Xf.V} {i : Nat} : ∀ (j : Nat) (x : Xf.V), (sdA l j).foldl (fun acc s => if s.n = 0 ∧ i = s.f.toNat then Xf.rmeetV acc ⟨s.k, s.v⟩ else acc) x = if 1 ≤ i ∧ i ≤ j then Xf.rmeetV x (l i) else x
  | 0, x => by rw [if_neg (by omega)]; rfl
  | j + 1, x => by
    rw [sdA_succ, List.foldl_append, foldA j x, List.foldl_cons, List.foldl_nil]
    dsimp only
    rw [Int.toNat_natCast]
    by_cases h : i = j + 1
    · subst h
      rw [if_pos ⟨rfl, rfl⟩, if_neg (by omega), if_pos (by omega)]
    · rw [if_neg (fun hh => h hh.2)]
      by_cases h2 : 1 ≤ i ∧ i ≤ j
      · rw [if_pos h2, if_pos (by omega)]
      · rw [if_neg h2, if_neg (by omega)]
theorem fold_none {me : Xf.V → Xf.V → Xf.V} {nd : Int} {i : Nat} : ∀ (l : List Sp.Vs) (x : Xf.V), (∀ s ∈ l, s.n ≠ nd) → l.foldl (fun acc s => if s.n = nd ∧ i = s.f.toNat then me acc ⟨s.k, s.v⟩ else acc) x = x
  | [], _, _ => rfl
  | s :: r, x, h => by
    rw [List.foldl_cons, if_neg (fun hh => h s (by simp) hh.1)]
    exact fold_none r x (fun t ht => h t (by simp [ht]))
theorem foldB {me : Xf.V → Xf.V → Xf.V} {nd : Int} {i : Nat} : ∀ (sd : List Sp.Vs) (x : Xf.V), ((sd.filter fun s => s.n = nd).map fun s => (⟨1, s.f, s.k, s.v⟩ : Sp.Vs)).foldl (fun acc s => if s.n = 1 ∧ i = s.f.toNat then me acc ⟨s.k, s.v⟩ else acc) x = sd.foldl (fun acc s => if s.n = nd ∧ i = s.f.toNat then me acc ⟨s.k, s.v⟩ else acc) x
  | [], _ => rfl
  | s :: r, x => by
    by_cases h : s.n = nd
    · rw [List.filter_cons_of_pos (by simpa using h), List.map_cons, List.foldl_cons, List.foldl_cons, foldB r]
      simp [h]
    · rw [List.filter_cons_of_neg (by simpa using h), List.foldl_cons, if_neg (fun hh => h hh.1), foldB r]
theorem sdA_n {l : Nat → Xf.V} {j : Nat} : ∀ s ∈ sdA l j, s.n = 0 := by
  intro s hs
  simp [sdA] at hs
  obtain ⟨_, _, rfl⟩ := hs
  rfl
theorem sdB_n {sd : List Sp.Vs} {nd : Int} {j : Nat} : ∀ s ∈ sdB sd nd j, s.n = 1 := by
  intro s hs
  simp [sdB] at hs
  obtain ⟨_, _, rfl⟩ := hs
  rfl
/-- One edge, as a problem of its own. -/
theorem steps_val {F : Nat} {sd : List Sp.Vs} {nd : Int} {ps : List Sp.Xp} {l : Nat → Xf.V} (h0 : l 0 = ⟨2, 0⟩) (hF : 1 ≤ F) (hp : ∀ j, j < ps.length → (Sp.gx ps j).i.toNat < F) (i : Nat) :
    runJ Xf.rmeetV Xf.rapply esQ [ps] (sdA l (F - 1) ++ sdB sd nd sd.length) 0 [0] 1 i = afterS Xf.rmeetV Xf.rapply sd nd ps l i := by
  rw [runJ, runJ]
  have e1 : (ge esQ (gi [0] 0).toNat).b = 1 := rfl
  have e2 : Sp.gl [ps] (gi [0] 0).toNat = ps := rfl
  rw [e1, e2]
  unfold afterS
  have hl : ∀ x, x < F → metS Xf.rmeetV (sdA l (F - 1) ++ sdB sd nd sd.length) 0 bot0 (sdA l (F - 1) ++ sdB sd nd sd.length).length x = l x := fun x hx => by
    rw [met_all, List.foldl_append, foldA, fold_none (nd := 0) (sdB sd nd sd.length) _ (fun s hs => by rw [sdB_n s hs]; decide)]
    by_cases hx0 : x = 0
    · subst hx0
      rw [if_neg (by omega), h0]
      rfl
    · rw [if_pos (by omega)]
      unfold bot0
      rw [if_neg hx0, meet_top]
  rw [pr_congr hl hp _ (Nat.le_refl _), met_all, met_all, List.foldl_append, fold_none (nd := 1) (sdA l (F - 1)) _ (fun s hs => by rw [sdA_n s hs]; decide)]
  unfold sdB
  rw [List.take_length]
  exact foldB sd _
theorem lessS_trans {a b c : Sp.Vs} (h1 : Sp.lessS a b = true) (h2 : Sp.lessS b c = true) : Sp.lessS a c = true := by
  unfold Sp.lessS at *
  grind
theorem sd_pair {N : Nat} {F : Int} {sd : List Sp.Vs} (h : ∀ j, j < sd.length → Sp.seedErr N F sd j = 0) : sd.Pairwise (fun a b => Sp.lessS a b = true) := by
  rw [List.pairwise_iff_getElem]
  have hadj : ∀ j, j + 1 < sd.length → Sp.lessS (Sp.gs sd j) (Sp.gs sd (j + 1)) = true := fun j hj => by
    have := h (j + 1) hj
    unfold Sp.seedErr at this
    split at this
    · cases this
    · split at this
      · rename_i hv; exact absurd this hv
      · split at this
        · cases this
        · rename_i hv
          cases hh : Sp.lessS (Sp.gs sd j) (Sp.gs sd (j + 1)) with
          | true => rfl
          | false => exact absurd ⟨Nat.succ_pos _, hh⟩ hv
  have hall : ∀ (d i : Nat), i + d + 1 < sd.length → Sp.lessS (Sp.gs sd i) (Sp.gs sd (i + d + 1)) = true := by
    intro d
    induction d with
    | zero => intro i hi; exact hadj i hi
    | succ d ih => intro i hi; exact lessS_trans (ih i (by omega)) (hadj (i + d + 1) (by omega))
  intro i j hi hj hij
  have := hall (j - i - 1) i (by omega)
  rw [show i + (j - i - 1) + 1 = j by omega, Sp.gs_lt hi, Sp.gs_lt hj] at this
  exact this
theorem seed_in {N : Nat} {F : Int} {sd : List Sp.Vs} (h : ∀ j, j < sd.length → Sp.seedErr N F sd j = 0) : ∀ s ∈ sd, 1 ≤ s.f ∧ s.f < F ∧ Sp.verr s.k s.v = 0 := by
  intro s hs
  obtain ⟨j, hj, rfl⟩ := List.getElem_of_mem hs
  have := h j hj
  unfold Sp.seedErr at this
  rw [Sp.gs_lt hj] at this
  split at this
  · cases this
  · split at this
    · rename_i hv; exact absurd this hv
    · rename_i hv
      exact ⟨by omega, by omega, Decidable.byContradiction hv⟩
theorem ok_verr {v : Xf.V} (h : Xf.ok v) : Sp.verr v.k v.n = 0 := by
  unfold Xf.ok at h
  unfold Sp.verr
  rw [if_neg (by omega), if_neg (by omega)]
theorem seed_ok {N : Nat} {F : Int} {sd : List Sp.Vs} (hp : sd.Pairwise (fun a b => Sp.lessS a b = true)) (hin : ∀ s ∈ sd, 0 ≤ s.n ∧ s.n < N ∧ 1 ≤ s.f ∧ s.f < F ∧ Sp.verr s.k s.v = 0) : ∀ j, j < sd.length → Sp.seedErr N F sd j = 0 := by
  intro j hj
  have := hin _ (List.getElem_mem hj)
  unfold Sp.seedErr
  rw [Sp.gs_lt hj, if_neg (by omega), this.2.2.2.2, if_neg (by simp), if_neg]
  rintro ⟨h1, h2⟩
  have h3 := List.pairwise_iff_getElem.1 hp (j - 1) j (by omega) hj (by omega)
  rw [Sp.gs_lt (show j - 1 < sd.length by omega), h3] at h2
  cases h2
/-- The problem of one edge is valid. -/
theorem steps_ok {N : Nat} {F : Nat} {sd : List Sp.Vs} {nd : Int} {ps : List Sp.Xp} {l : Nat → Xf.V} (hF1 : 1 ≤ F) (hF2 : F ≤ 1024) (hl : ∀ i, Xf.ok (l i)) (hp : Sp.pairsErr F ps = 0) (hs : ∀ j, j < sd.length → Sp.seedErr N F sd j = 0) :
    alErr nsQ esQ 0 F [ps] (sdA l (F - 1) ++ sdB sd nd sd.length) [0] = 0 := by
  have hi : Sp.ideErr nsQ esQ 0 F [ps] (sdA l (F - 1) ++ sdB sd nd sd.length) = 0 := by
    refine Sp.ide_ok supQ (by omega) rfl (fun x hx => ?_) (seed_ok ?_ ?_)
    · obtain rfl : x = 0 := by simpa using hx
      exact hp
    · rw [List.pairwise_append]
      refine ⟨?_, ?_, fun a ha b hb => ?_⟩
      · unfold sdA
        rw [List.pairwise_map]
        refine List.Pairwise.imp ?_ List.pairwise_lt_range
        intro a b hab
        unfold Sp.lessS
        rw [if_neg (by simp)]
        simp only [decide_eq_true_eq]
        omega
      · unfold sdB
        rw [List.take_length, List.pairwise_map, List.pairwise_filter]
        refine List.Pairwise.imp ?_ (sd_pair hs)
        intro a b hab ha hb
        have ha := of_decide_eq_true ha
        have hb := of_decide_eq_true hb
        unfold Sp.lessS at hab ⊢
        rw [if_neg (by rw [ha, hb]; simp)] at hab
        rw [if_neg (by simp)]
        exact hab
      · unfold Sp.lessS
        rw [sdA_n a ha, sdB_n b hb, if_pos (by decide)]
        rfl
    · intro s hm
      rcases List.mem_append.1 hm with hm | hm
      · rw [sdA_n s hm]
        simp [sdA] at hm
        obtain ⟨d, hd, rfl⟩ := hm
        exact ⟨by decide, by decide, by show (1 : Int) ≤ ((d + 1 : Nat) : Int); omega, by show ((d + 1 : Nat) : Int) < (F : Int); omega, ok_verr (hl _)⟩
      · rw [sdB_n s hm]
        simp [sdB] at hm
        obtain ⟨t, ⟨ht, -⟩, rfl⟩ := hm
        have := seed_in hs t ht
        exact ⟨by decide, by decide, this⟩
  unfold alErr
  rw [hi, if_neg (by simp)]
  exact folQ
end Go.Proofs.YtmjebjjhfoncfaaDoor
