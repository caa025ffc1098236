/- Values along a path, in plain words; program and reference compute the same. -/
import Derived.Test.YtmjebjjhfoncfaaDoorEi
import Derived.Test.YtmjebjjhfoncfaaDoorEd
namespace Go.Proofs.YtmjebjjhfoncfaaDoor
open Go.RowKit Go.Df
namespace Xf
/-- Valid values. -/
def ok (v : V) : Prop := (v.k = 0 ∧ v.n = 0) ∨ v.k = 1 ∨ (v.k = 2 ∧ v.n = 0)
theorem ok0 : ok ⟨0, 0⟩ := .inl ⟨rfl, rfl⟩
theorem ok2 : ok ⟨2, 0⟩ := .inr (.inr ⟨rfl, rfl⟩)
theorem ok1 (c : Int) : ok ⟨1, c⟩ := .inr (.inl rfl)
theorem meet_ok {v u : V} (hv : ok v) (hu : ok u) : ok (rmeetV v u) := by
  unfold rmeetV
  split
  · exact hu
  · split
    · exact hv
    · exact ok2
theorem meet_eq {v u : V} (hv : ok v) (hu : ok u) : meetV v u = rmeetV v u := by
  obtain ⟨k, n⟩ := v
  obtain ⟨k', n'⟩ := u
  unfold meetV rmeetV ok at *
  dsimp only at *
  by_cases h1 : k = 0
  · have hn : n = 0 := by omega
    subst h1; subst hn
    by_cases h2 : k' = 0
    · have hn' : n' = 0 := by omega
      subst h2; subst hn'
      simp
    · rw [if_neg (by rintro (h | h); (injection h with h3 h4; exact h2 h3.symm); exact h2 h)]
      simp
  · skip
    by_cases h2 : (⟨k, n⟩ : V) = ⟨k', n'⟩
    · rw [if_pos (Or.inl h2), if_pos (Or.inr h2), if_neg h1]
    · by_cases h3 : k' = 0
      · rw [if_pos (Or.inr h3), if_pos (Or.inl h3), if_neg h1]
      · simp [h1, h2, h3]
theorem sum_ok {v : V} {b : Int} (h : ok v) : ok (sum v b) := by
  unfold sum
  split
  · exact ok1 _
  · exact h
theorem apply_ok {x : X} {v : V} (h : ok v) : ok (rapply x v) := by
  unfold rapply
  (repeat' split) <;> first | exact h | exact ok0 | exact ok2 | exact ok1 _ | exact sum_ok h | exact meet_ok (sum_ok h) (ok1 _)
theorem apply_eq {x : X} {v : V} (h : ok v) : apply x v = rapply x v := by
  unfold apply rapply
  by_cases h0 : v.k = 0
  · rw [if_pos h0, if_pos h0]
    obtain ⟨k, n⟩ := v
    unfold ok at h
    dsimp only at h h0
    have : n = 0 := by omega
    subst h0; subst this; rfl
  · rw [if_neg h0, if_neg h0]
    (repeat' split) <;> first | rfl | exact meet_eq (sum_ok h) (ok1 _)
end Xf
/-- The values that the first j pairs of an edge give. -/
def prS (me : Xf.V → Xf.V → Xf.V) (ap : Xf.X → Xf.V → Xf.V) (ps : List Sp.Xp) (l : Nat → Xf.V) : Nat → Nat → Xf.V
  | 0, _ => ⟨0, 0⟩
  | j + 1, i => if i = (Sp.gx ps j).o.toNat then me (prS me ap ps l j i) (ap ⟨(Sp.gx ps j).k, (Sp.gx ps j).b, (Sp.gx ps j).c⟩ (l (Sp.gx ps j).i.toNat)) else prS me ap ps l j i
/-- The values behind an edge to node nd. -/
def afterS (me : Xf.V → Xf.V → Xf.V) (ap : Xf.X → Xf.V → Xf.V) (sd : List Sp.Vs) (nd : Int) (ps : List Sp.Xp) (l : Nat → Xf.V) : Nat → Xf.V := metS me sd nd (prS me ap ps l ps.length) sd.length
def bot0 : Nat → Xf.V := fun i => if i = 0 then ⟨2, 0⟩ else ⟨0, 0⟩
/-- The values behind the first j edges of a path from node mn. -/
def runJ (me : Xf.V → Xf.V → Xf.V) (ap : Xf.X → Xf.V → Xf.V) (es : List Sp.Ed) (ls : List (List Sp.Xp)) (sd : List Sp.Vs) (mn : Int) (path : List Int) : Nat → Nat → Xf.V
  | 0 => metS me sd mn bot0 sd.length
  | j + 1 => afterS me ap sd (ge es (gi path j).toNat).b (Sp.gl ls (gi path j).toNat) (runJ me ap es ls sd mn path j)
/-- All seeds have valid values. -/
def SdOk (sd : List Sp.Vs) : Prop := ∀ j, j < sd.length → Xf.ok ⟨(Sp.gs sd j).k, (Sp.gs sd j).v⟩
theorem met_ok {sd : List Sp.Vs} (hs : SdOk sd) {nd : Int} {f : Nat → Xf.V} (hf : ∀ i, Xf.ok (f i)) : ∀ (j : Nat), j ≤ sd.length → ∀ i, Xf.ok (metS Xf.rmeetV sd nd f j i)
  | 0, _, i => hf i
  | j + 1, h, i => by
    rw [metS]
    split
    · exact Xf.meet_ok (met_ok hs hf j (by omega) i) (hs j (by omega))
    · exact met_ok hs hf j (by omega) i
theorem met_eq {sd : List Sp.Vs} (hs : SdOk sd) {nd : Int} {f : Nat → Xf.V} (hf : ∀ i, Xf.ok (f i)) : ∀ (j : Nat), j ≤ sd.length → metS Xf.meetV sd nd f j = metS Xf.rmeetV sd nd f j
  | 0, _ => rfl
  | j + 1, h => by
    funext i
    rw [metS, metS, met_eq hs hf j (by omega), Xf.meet_eq (met_ok hs hf j (by omega) i) (hs j (by omega))]
theorem pr_ok {ps : List Sp.Xp} {l : Nat → Xf.V} (hl : ∀ i, Xf.ok (l i)) : ∀ (j i : Nat), Xf.ok (prS Xf.rmeetV Xf.rapply ps l j i)
  | 0, _ => Xf.ok0
  | j + 1, i => by
    rw [prS]
    split
    · exact Xf.meet_ok (pr_ok hl j i) (Xf.apply_ok (hl _))
    · exact pr_ok hl j i
theorem pr_eq {ps : List Sp.Xp} {l : Nat → Xf.V} (hl : ∀ i, Xf.ok (l i)) : ∀ (j : Nat), prS Xf.meetV Xf.apply ps l j = prS Xf.rmeetV Xf.rapply ps l j
  | 0 => rfl
  | j + 1 => by
    funext i
    rw [prS, prS, pr_eq hl j, Xf.apply_eq (hl _), Xf.meet_eq (pr_ok hl j i) (Xf.apply_ok (hl _))]
theorem bot_ok (i : Nat) : Xf.ok (bot0 i) := by
  unfold bot0
  split
  · exact Xf.ok2
  · exact Xf.ok0
theorem run_ok {es : List Sp.Ed} {ls : List (List Sp.Xp)} {sd : List Sp.Vs} {mn : Int} {path : List Int} (hs : SdOk sd) : ∀ j i, Xf.ok (runJ Xf.rmeetV Xf.rapply es ls sd mn path j i)
  | 0, i => met_ok hs bot_ok _ (Nat.le_refl _) i
  | j + 1, i => met_ok hs (pr_ok (run_ok hs j) _) _ (Nat.le_refl _) i
theorem run_eq {es : List Sp.Ed} {ls : List (List Sp.Xp)} {sd : List Sp.Vs} {mn : Int} {path : List Int} (hs : SdOk sd) : ∀ j, runJ Xf.meetV Xf.apply es ls sd mn path j = runJ Xf.rmeetV Xf.rapply es ls sd mn path j
  | 0 => met_eq hs bot_ok _ (Nat.le_refl _)
  | j + 1 => by
    rw [runJ, runJ, run_eq hs j, afterS, afterS, pr_eq (run_ok hs j) _]
    exact met_eq hs (pr_ok (run_ok hs j) _) _ (Nat.le_refl _)
/-- Seeds that are not at the node change nothing. -/
theorem met_skip {me : Xf.V → Xf.V → Xf.V} {sd : List Sp.Vs} {nd : Int} {f : Nat → Xf.V} {a : Nat} : ∀ (b : Nat), a ≤ b → (∀ j, a ≤ j → j < b → (Sp.gs sd j).n ≠ nd) → metS me sd nd f b = metS me sd nd f a
  | 0, h, _ => by rw [show a = 0 by omega]
  | b + 1, h, hn => by
    by_cases e : a = b + 1
    · rw [e]
    · rw [← met_skip b (by omega) (fun j h1 h2 => hn j h1 (by omega))]
      funext i
      rw [metS, if_neg (fun hh => hn b (by omega) (by omega) hh.1)]
theorem met_one {me : Xf.V → Xf.V → Xf.V} {sd : List Sp.Vs} {nd : Int} {f : Nat → Xf.V} {j : Nat} (h : (Sp.gs sd j).n = nd) :
    (fun i => if i = (Sp.gs sd j).f.toNat then me (metS me sd nd f j (Sp.gs sd j).f.toNat) ⟨(Sp.gs sd j).k, (Sp.gs sd j).v⟩ else metS me sd nd f j i) = metS me sd nd f (j + 1) := by
  funext i
  rw [metS]
  by_cases hi : i = (Sp.gs sd j).f.toNat
  · rw [if_pos hi, if_pos ⟨h, hi⟩, hi]
  · rw [if_neg hi, if_neg (fun hh => hi hh.2)]
theorem pr_one {me : Xf.V → Xf.V → Xf.V} {ap : Xf.X → Xf.V → Xf.V} {ps : List Sp.Xp} {l : Nat → Xf.V} {j : Nat} :
    (fun i => if i = (Sp.gx ps j).o.toNat then me (prS me ap ps l j (Sp.gx ps j).o.toNat) (ap ⟨(Sp.gx ps j).k, (Sp.gx ps j).b, (Sp.gx ps j).c⟩ (l (Sp.gx ps j).i.toNat)) else prS me ap ps l j i) = prS me ap ps l (j + 1) := by
  funext i
  rw [prS]
  by_cases hi : i = (Sp.gx ps j).o.toNat
  · rw [if_pos hi, if_pos hi, hi]
  · rw [if_neg hi, if_neg hi]
/-- What a valid problem says of its parts. -/
structure PrOk (ns : List Sp.Nd) (es : List Sp.Ed) (mn F : Int) (ls : List (List Sp.Xp)) (sd : List Sp.Vs) : Prop where
  sup : Sp.superErr ns es mn = 0
  f1 : 1 ≤ F
  f2 : F ≤ 1024
  len : ls.length = es.length
  pin : ∀ k, k < ls.length → (Sp.gl ls k).length ≤ 8192 ∧ ∀ j, j < (Sp.gl ls k).length → 0 ≤ (Sp.gx (Sp.gl ls k) j).i ∧ (Sp.gx (Sp.gl ls k) j).i < F ∧ 0 ≤ (Sp.gx (Sp.gl ls k) j).o ∧ (Sp.gx (Sp.gl ls k) j).o < F
  sin : ∀ j, j < sd.length → 1 ≤ (Sp.gs sd j).f ∧ (Sp.gs sd j).f < F
  sok : SdOk sd
  srt : ∀ j, j + 1 < sd.length → (Sp.gs sd j).n ≤ (Sp.gs sd (j + 1)).n
theorem fe_zero {g : Nat → Int} : ∀ (n i : Nat), Sp.fe g i n = 0 → ∀ j, i ≤ j → j < i + n → g j = 0
  | 0, i, _, j, h1, h2 => by omega
  | n + 1, i, h, j, h1, h2 => by
    unfold Sp.fe at h
    split at h
    · rename_i h0
      by_cases e : j = i
      · subst e; exact h0
      · exact fe_zero n (i + 1) h j (by omega) (by omega)
    · rename_i h0
      exact absurd h h0
theorem ide_parts {ns : List Sp.Nd} {es : List Sp.Ed} {mn F : Int} {ls : List (List Sp.Xp)} {sd : List Sp.Vs} (h : Sp.ideErr ns es mn F ls sd = 0) : PrOk ns es mn F ls sd := by
  unfold Sp.ideErr at h
  by_cases h1 : Sp.superErr ns es mn = 0
  case neg => rw [if_pos h1] at h; exact absurd h h1
  rw [if_neg (not_not_intro h1)] at h
  by_cases h2 : F < 1 ∨ 1024 < F
  · rw [if_pos h2] at h; cases h
  rw [if_neg h2] at h
  by_cases h3 : ls.length = es.length
  case neg => rw [if_pos h3] at h; cases h
  rw [if_neg (not_not_intro h3)] at h
  by_cases h4 : Sp.fe (fun i => Sp.pairsErr F (Sp.gl ls i)) 0 ls.length = 0
  case neg => rw [if_pos h4] at h; exact absurd h h4
  rw [if_neg (not_not_intro h4)] at h
  have hP := fun k (hk : k < ls.length) => fe_zero _ _ h4 k (Nat.zero_le _) (by omega)
  have hS := fun j (hj : j < sd.length) => fe_zero _ _ h j (Nat.zero_le _) (by omega)
  refine ⟨h1, by omega, by omega, h3, fun k hk => ?_, fun j hj => ?_, fun j hj => ?_, fun j hj => ?_⟩
  · have := hP k hk
    unfold Sp.pairsErr at this
    by_cases l8 : 8192 < (Sp.gl ls k).length
    · rw [if_pos l8] at this; cases this
    rw [if_neg l8] at this
    refine ⟨by omega, fun j hj => ?_⟩
    by_cases h5 : Sp.fe (Sp.pairErr F (Sp.gl ls k)) 0 (Sp.gl ls k).length = 0
    case neg => rw [if_pos h5] at this; exact absurd this h5
    have h6 := fe_zero _ _ h5 j (Nat.zero_le _) (by omega)
    unfold Sp.pairErr at h6
    split at h6
    · cases h6
    · omega
  · have := hS j hj
    unfold Sp.seedErr at this
    split at this
    · cases this
    · omega
  · have := hS j hj
    unfold Sp.seedErr at this
    split at this
    · cases this
    · split at this
      · rename_i hv; exact absurd this hv
      · rename_i hv
        have hv0 : Sp.verr (Sp.gs sd j).k (Sp.gs sd j).v = 0 := Decidable.byContradiction hv
        unfold Sp.verr at hv0
        unfold Xf.ok
        dsimp only
        split at hv0
        · cases hv0
        · split at hv0
          · cases hv0
          · omega
  · have := hS (j + 1) hj
    unfold Sp.seedErr at this
    split at this
    · cases this
    · split at this
      · rename_i hv; exact absurd this hv
      · split at this
        · cases this
        · rename_i hv
          have hl : Sp.lessS (Sp.gs sd j) (Sp.gs sd (j + 1)) = true := by
            cases hh : Sp.lessS (Sp.gs sd j) (Sp.gs sd (j + 1)) with
            | true => rfl
            | false => exact absurd ⟨Nat.succ_pos _, hh⟩ hv
          unfold Sp.lessS at hl
          split at hl
          · simp at hl; omega
          · omega
/-- Sorted by nodes. -/
theorem PrOk.le {ns : List Sp.Nd} {es : List Sp.Ed} {mn F : Int} {ls : List (List Sp.Xp)} {sd : List Sp.Vs} (h : PrOk ns es mn F ls sd) {i : Nat} : ∀ (j : Nat), i ≤ j → j < sd.length → (Sp.gs sd i).n ≤ (Sp.gs sd j).n
  | 0, h1, _ => by rw [show i = 0 by omega]; exact Int.le_refl _
  | j + 1, h1, h2 => by
    by_cases e : i = j + 1
    · rw [e]; exact Int.le_refl _
    · exact Int.le_trans (PrOk.le h j (by omega) (by omega)) (h.srt j h2)
end Go.Proofs.YtmjebjjhfoncfaaDoor
