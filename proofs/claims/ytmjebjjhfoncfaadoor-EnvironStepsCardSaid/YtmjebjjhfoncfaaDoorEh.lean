/- Lists of values in memory; the contract of the reference's tops. -/
import Derived.Test.YtmjebjjhfoncfaaDoorEg
import Derived.Test.YtmjebjjhfoncfaaDoorDd
namespace Go.Df
open Go.RowKit
theorem Rd.new2 (w : World) (b : Nat) (u v : Value) (t : TypeId) (hb : b = w.heap.size) : Rd (w.alloc (.cells #[u, v] t)) 2 (some ⟨b, 0, none⟩) 1 [u, v] := by
  subst hb
  refine ⟨rfl, fun _ => ⟨_, _, rfl, by simp, fun j _ => ?_⟩⟩
  rw [World.cell?_alloc_new, Nat.zero_add]; simp
theorem own_keptK {X : List Nat} {w w1 : World} {base : Nat} {e : TypeId} {k n : Nat} {v : Value} {xs : List Value} (h : w.ownsRow base e k v n xs) (hk : Kept X w w1) (hX : ∀ g, v.ownBlock = some g → g ∉ X) : w1.ownsRow base e k v n xs := by
  refine ⟨h.1, ?_⟩
  rcases h.2 with h0 | ⟨g, cap, cur, rfl, hb, hh, rest⟩
  · exact .inl h0
  · refine .inr ⟨g, cap, cur, rfl, hb, ?_, rest⟩
    rw [hk.block g (by
      rcases Nat.lt_or_ge g w.heap.size with h1 | h1
      · exact h1
      · rw [Array.getElem?_eq_none h1] at hh; cases hh) (hX g rfl)]
    exact hh
/-- The cells of a row of one's own. -/
theorem own_cells {w : World} {base : Nat} {e : TypeId} {k n : Nat} {v : Value} {xs : List Value} (h : w.ownsRow base e k v n xs) (h0 : 0 < n) :
    ∃ g c, v = .slice (some ⟨g, 0, none⟩) n c ∧ base ≤ g ∧ g < w.heap.size ∧ n ≤ c ∧ c ≤ maxLen ∧ (∀ i, i < n * k → w.cell? ⟨g, i, none⟩ = xs[i]?) ∧ ∀ i, w.frozen? ⟨g, i, none⟩ = false := by
  rcases h.2 with ⟨rfl, rfl⟩ | ⟨g, cap, cur, rfl, hb, hh, hnc, hcm, hcs, htk⟩
  · omega
  · refine ⟨g, cap, rfl, hb, ?_, hnc, hcm, fun i hi => ?_, fun i => ?_⟩
    · rcases Nat.lt_or_ge g w.heap.size with h1 | h1
      · exact h1
      · rw [Array.getElem?_eq_none h1] at hh; cases hh
    · rw [← htk, List.getElem?_take_of_lt hi]
      simp [World.cell?, hh]
    · simp [World.frozen?, hh]
end Go.Df
namespace Go.Proofs.YtmjebjjhfoncfaaDoor
open Go.RowKit Go.Df
attribute [local go_sem ↓] Go.wp_at_zero Go.wp_at_succ
/-- Block g holds n values, which may be written. -/
structure Vals (w : World) (g n : Nat) (f : Nat → Xf.V) : Prop where
  lt : g < w.heap.size
  c0 : ∀ i, i < n → w.cell? ⟨g, i * 2, none⟩ = some (.int .i64 (f i).k)
  c1 : ∀ i, i < n → w.cell? ⟨g, i * 2 + 1, none⟩ = some (.int .i64 (f i).n)
  fz : ∀ i, w.frozen? ⟨g, i, none⟩ = false
theorem Vals.kept {X : List Nat} {w w' : World} {g n : Nat} {f : Nat → Xf.V} (h : Vals w g n f) (hk : Kept X w w') (hx : g ∉ X) : Vals w' g n f :=
  ⟨Nat.lt_of_lt_of_le h.lt hk.size, fun i hi => (hk.cell g _ h.lt hx).trans (h.c0 i hi), fun i hi => (hk.cell g _ h.lt hx).trans (h.c1 i hi), fun i => (hk.frozen g _ h.lt hx).trans (h.fz i)⟩
theorem Vals.later {w w' : World} {g n : Nat} {f : Nat → Xf.V} (h : Vals w g n f) (hb : Below w.heap.size w w') : Vals w' g n f := h.kept (X := []) ((Kept.refl _ _).call hb) (by simp)
/-- A value is written. -/
theorem Vals.put {w : World} {g n : Nat} {f : Nat → Xf.V} (h : Vals w g n f) (x : Nat) (v : Xf.V) (hx : x < n) :
    Vals ((w.setCell ⟨g, x * 2, none⟩ (.int .i64 v.k)).setCell ⟨g, x * 2 + 1, none⟩ (.int .i64 v.n)) g n (fun i => if i = x then v else f i) := by
  refine ⟨by simpa [World.setCell] using h.lt, fun i hi => ?_, fun i hi => ?_, fun i => (World.frozen?_setCell _ _ _ _).trans ((World.frozen?_setCell _ _ _ _).trans (h.fz i))⟩
  · rw [set_other (.inr (by omega))]
    by_cases e : i = x
    · subst e; rw [if_pos rfl, set_same (h.c0 i hi)]
    · rw [if_neg e, set_other (.inr (by omega)), h.c0 i hi]
  · by_cases e : i = x
    · subst e; rw [if_pos rfl, set_same (u := .int .i64 (f i).n) ((set_other (.inr (by omega))).trans (h.c1 i hi))]
    · rw [if_neg e, set_other (.inr (by omega)), set_other (.inr (by omega)), h.c1 i hi]
theorem val_info : (Tryd.prog.info? 52).map (fun i => (i.zero, i.size, i.bytes)) = some (some (.agg #[.int .i64 0, .int .i64 0]), 2, 16) := by kernel_rfl

set_option maxRecDepth 100000 in
set_option maxHeartbeats 1000000 in
theorem tops_any (F : Nat) (w : World) (h1 : 1 ≤ F) (h2 : F ≤ 1024) :
    Calls Tryd.prog 35 #[.int .i64 F] w fun e w' => ∃ g c, e = .returned (.slice (some ⟨g, 0, none⟩) F c) ∧ Vals w' g F (fun _ => ⟨0, 0⟩) ∧ w.heap.size ≤ g ∧ F ≤ c ∧ Below w.heap.size w w' := by
  obtain ⟨i0, hi, hz0, hz1, hz2⟩ := info_parts val_info
  go_enter Tryd.func35, Tryd.ntmps35
  go_wp2_with fail
  go_loopw [3, 4] (fun s3 s4 wr => ∃ (j : Nat) (A : Option Addr) (c : Nat), j ≤ F ∧ s3 = .slice A j c ∧ s4 = .int .i64 j ∧ Kept [] w wr ∧ Hid (wr.ownsRow w.heap.size 52 2 (.slice A j c) j (List.replicate (j * 2) (Value.int .i64 0)))) (fun _ i _ => F - (intOf i).toNat)
  case atStart => exact ⟨0, none, 0, Nat.zero_le _, rfl, rfl, Kept.refl _ _, Lib.hid (World.ownsRow_nil _ _ _ _)⟩
  case round =>
    obtain ⟨j, A, c, hj, rfl, rfl, hkr, own⟩ := hrel
    have hsz := hkr.size
    by_cases hlt : j < F
    · have HAP : Hid (List.replicate (j * 2) (Value.int .i64 0) ++ [.int .i64 0, .int .i64 0] = List.replicate ((j + 1) * 2) (Value.int .i64 0)) := by
        show _ = _
        rw [show (j + 1) * 2 = j * 2 + 2 by omega, ← List.replicate_append_replicate]
        rfl
      go_wp2_with (first
        | (at_builtin; refine wpList_append_rd _ rfl _ _ 32 rfl w.heap.size 52 i0 (.agg #[.int .i64 0, .int .i64 0]) 2 16 Tryd.underlying32 hi hz0 hz1 hz2 rfl (by decide) (.slice A j c) j (List.replicate (j * 2) (Value.int .i64 0)) rfl (own_keptK (X := []) own.out ((Kept.refl _ _).alloc _) (by simp)) (some ⟨wr.heap.size, 0, none⟩) 1 1 [.int .i64 0, .int .i64 0] rfl (Rd.new2 _ _ _ _ _ rfl) (fun h => by cases h) (by intro u hu; simp at hu; subst hu; rfl) (j + 1) rfl (List.replicate ((j + 1) * 2) (Value.int .i64 0)) HAP.out (by unfold maxLen; omega) (by omega) (by simp; omega) ?_; intro A9 c9 w4 hown4 hk4 hat4; have HX : Hid (∀ y ∈ (Value.slice A j c).ownBlock.toList, w.heap.size ≤ y) := (fun y hy => own_ge own.out (by simpa using hy)); have hk5 := Lib.hid ((hkr.alloc (.cells #[.int .i64 0, .int .i64 0] 52)).next hk4 (fun y hy => Or.inr (HX.out y hy))); have HO4 := Lib.hid hown4; clear hown4 hk4 hat4))
      exact ⟨⟨j + 1, A9, c9, by omega, rfl, by go_num, hk5.out, HO4⟩, by simp [intOf]; omega⟩
    · obtain rfl : j = F := by omega
      obtain ⟨g, c', hv, hb, hg, hc, -, hcell, hfz⟩ := own_cells own.out (by omega)
      injection hv with e1 e2 e3
      subst e1
      subst e3
      have HV : Hid (Vals wr g j (fun _ => ⟨0, 0⟩)) := Lib.hid ⟨hg, fun i hi => by rw [hcell _ (by omega), List.getElem?_replicate, if_pos (by omega)], fun i hi => by rw [hcell _ (by omega), List.getElem?_replicate, if_pos (by omega)], hfz⟩
      clear hcell hfz hlt
      go_wp2_with fail
      go_ret
      exact ⟨g, c, rfl, HV.out, hb, hc, hkr.toBelow⟩
end Go.Proofs.YtmjebjjhfoncfaaDoor
