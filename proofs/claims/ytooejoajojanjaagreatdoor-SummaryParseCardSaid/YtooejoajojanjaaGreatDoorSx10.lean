/- Texts: Rd Lr Ka Re Pi. -/
import Derived.Test.YtooejoajojanjaaGreatDoorSx09
import Derived.Test.YtooejoajojanjaaGreatDoorSx04
import Derived.Sort.OwnSortedInts
import Derived.Shelf.Slices.In.SortNone
import Derived.Test.YtooejoajojanjaaGreatDoorSx01
import Derived.ProofKit
import Derived.Lib.SmallJoins
import Derived.Deep.Slices
import Derived.Test.YtooejoajojanjaaGreatDoorSx07
namespace Go.Df
open Go.RowKit Go.Sort Go.Proofs
theorem grow_nil (w : World) : grow w #[] = w := by simp [grow]
/-- A row of one's own, compacted. -/
theorem own_compact {w : World} {base g cap q : Nat} {e : TypeId} {ss ts zs : List Int} (hl : ts.length + zs.length = ss.length) (h : w.ownsRow base e 1 (.slice (some ⟨g, 0, none⟩) ss.length cap) ss.length (ss.map (Value.int .i64))) :
    (putRow (Value.int .i64) (Sort.ahead w q) g 0 (ts ++ zs).toArray).ownsRow base e 1 (.slice (some ⟨g, 0, none⟩) ts.length cap) ts.length (ts.map (Value.int .i64)) ∧ Kept [g] w (putRow (Value.int .i64) (Sort.ahead w q) g 0 (ts ++ zs).toArray) := by
  rcases h.2 with ⟨h0, _⟩ | ⟨g', cap', cur, hv, hg, hh, hn, hcap, hcs, htk⟩
  · cases h0
  cases hv
  refine ⟨⟨by simp, .inr ⟨g, cap, putCells (Value.int .i64) 0 (ts ++ zs).toArray cur, rfl, hg, ?_, by omega, hcap, by simpa [putCells] using hcs, ?_⟩⟩, ?_⟩
  · have := heap_sortedI (n := q) (os := #[]) (ts ++ zs).toArray hh
    rwa [grow_nil] at this
  · have h1 := take_putCellsI cur (ts ++ zs) (by rw [List.length_append]; omega)
    have h2 := congrArg (List.take ts.length) h1
    rw [List.take_take, List.length_append, Nat.min_eq_left (by omega), List.map_append, List.take_append_of_le_length (by simp), List.take_of_length_le (l := ts.map (Value.int .i64)) (by simp)] at h2
    rw [Nat.mul_one]
    exact h2
  · have := kept_grown (grownBy_sortedI (w := w) (g := g) (n := q) (os := #[]) (ts ++ zs).toArray)
    rw [grow_nil] at this
    simpa using this
theorem own_block {w : World} {base g : Nat} {e : TypeId} {n c : Nat} {xs : List Value} (h : w.ownsRow base e 1 (.slice (some ⟨g, 0, none⟩) n c) n xs) : g < w.heap.size := by
  rcases h.2 with ⟨h0, _⟩ | ⟨g', cap', cur, hv, hg, hh, _⟩
  · cases h0
  · cases hv
    rcases Nat.lt_or_ge g w.heap.size with h1 | h1
    · exact h1
    · rw [Array.getElem?_eq_none h1] at hh; cases hh
end Go.Df
namespace Go.Proofs.YtooejoajojanjaaGreatDoor
open Go.RowKit Go.Df Go.Df.If Go.Sort
attribute [local go_sem ↓] Go.wp_at_zero Go.wp_at_succ
/-- slices.Sort at a row of one's own. -/
theorem sort_own {base : Nat} {B : Option Addr} {k c : Nat} {l : List Int} (w : World) (h : w.ownsRow base 3 1 (.slice B k c) k (l.map (Value.int .i64))) (hk : k ≤ 1000000) :
    Calls Tryz.prog 69 #[.slice B k c] w fun e w' => e = .returned (.tuple #[]) ∧ w'.ownsRow base 3 1 (.slice B k c) k ((l.mergeSort fun x y => decide (x ≤ y)).map (Value.int .i64)) ∧ Kept (Value.slice B k c).ownBlock.toList w w' := by
  have hl : l.length = k := by simpa using h.1
  rcases h.2 with ⟨hv, h0⟩ | ⟨g, cap, cur, hv, hg, hh, hn, hcap, hcs, htk⟩
  · cases hv
    refine (Any.slices_Sort_int_none layS none 0 w).mono ?_
    rintro e w' ⟨rfl, rfl⟩
    have : l = [] := List.length_eq_zero_iff.1 hl
    subst this
    exact ⟨rfl, by simpa using h, Kept.refl _ _⟩
  · cases hv
    subst hl
    have hgl := own_block h
    have hH : Holds (Value.int .i64) w g 0 l.toArray := holds_of_blockI hh (by simpa using htk)
    refine (Any.slices_Sort_int layS g 0 c l w hH hgl (by omega)).mono ?_
    rintro e w' ⟨rfl, n, os, rfl⟩
    refine ⟨rfl, ?_, ?_⟩
    · exact ownsRow_sortedI (ss := l) (List.length_mergeSort l) hg hh hn hcap hcs
    · have := kept_grown (grownBy_sortedI (w := w) (g := g) (n := n) (os := os) (l.mergeSort fun x y => decide (x ≤ y)).toArray)
      exact this
/-- slices.Compact at a row of one's own. -/
theorem compact_own {base : Nat} {B : Option Addr} {k c : Nat} {l : List Int} (w : World) (h : w.ownsRow base 3 1 (.slice B k c) k (l.map (Value.int .i64))) (hk : k ≤ 1000000) :
    Calls Tryz.prog 70 #[.slice B k c] w fun e w' => e = .returned (.slice B (Lib.compact l).length c) ∧ w'.ownsRow base 3 1 (.slice B (Lib.compact l).length c) (Lib.compact l).length ((Lib.compact l).map (Value.int .i64)) ∧ Kept (Value.slice B k c).ownBlock.toList w w' := by
  have hl : l.length = k := by simpa using h.1
  rcases h.2 with ⟨hv, h0⟩ | ⟨g, cap, cur, hv, hg, hh, hn, hcap, hcs, htk⟩
  · cases hv
    refine (Any.slices_Compact_int_empty layC none 0 w).mono ?_
    rintro e w' ⟨rfl, rfl⟩
    have : l = [] := List.length_eq_zero_iff.1 hl
    subst this
    exact ⟨rfl, by simpa [Lib.compact, Lib.compactUpTo] using h, Kept.refl _ _⟩
  · cases hv
    subst hl
    have hH : Holds (Value.int .i64) w g 0 l.toArray := holds_of_blockI hh (by simpa using htk)
    refine (Any.slices_Compact_int layC g 0 c l w hH (by omega) hn).mono ?_
    rintro e w' ⟨rfl, q, rfl⟩
    have hle : (Lib.compact l).length ≤ l.length := by unfold Lib.compact Lib.compactUpTo; rw [List.length_map]; exact Nat.le_trans (List.length_filter_le _ _) (by simp)
    obtain ⟨h1, h2⟩ := own_compact (ts := Lib.compact l) (zs := List.replicate (l.length - (Lib.compact l).length) 0) (q := q) (by rw [List.length_replicate]; omega) h
    exact ⟨rfl, h1, h2⟩
end Go.Proofs.YtooejoajojanjaaGreatDoor
namespace Go.Df
open Go.RowKit
namespace If
/-- Which facts hold, as a map says. -/
def mbF (l : List Int) (i : Nat) : Value → Lit := fun v => match v with | .int .i64 x => .bool (decide (x = 0 ∨ ∃ j, j < i ∧ gi l j = x)) | _ => .bool false
theorem mbF_succ {l : List Int} {i : Nat} {y : Int} (e : gi l i = y) : mbF l (i + 1) (.int .i64 y) = .bool true ∧ ∀ x, x ≠ .int .i64 y → mbF l (i + 1) x = mbF l i x := by
  constructor
  · unfold mbF
    simp only
    exact congrArg Lit.bool (decide_eq_true (Or.inr ⟨i, by omega, e⟩))
  · intro x hx
    unfold mbF
    split
    · rename_i z
      refine congrArg Lit.bool ?_
      rw [decide_eq_decide]
      constructor
      · rintro (h | ⟨j, hj, h⟩)
        · exact Or.inl h
        · rcases Nat.lt_or_ge j i with h9 | h9
          · exact Or.inr ⟨j, h9, h⟩
          · obtain rfl : j = i := by omega
            rw [e] at h
            subst h
            exact absurd rfl hx
      · rintro (h | ⟨j, hj, h⟩)
        · exact Or.inl h
        · exact Or.inr ⟨j, by omega, h⟩
    · rfl
theorem mbF_all {l : List Int} {n : Nat} (h : l.length = n) (x : Int) : mbF l n (.int .i64 x) = .bool (decide (x = 0 ∨ x ∈ l)) := by
  unfold mbF
  simp only
  refine congrArg Lit.bool ?_
  rw [decide_eq_decide]
  constructor
  · rintro (h1 | ⟨j, hj, h1⟩)
    · exact Or.inl h1
    · right; rw [← h1, gi_lt (by omega)]; exact List.getElem_mem _
  · rintro (h1 | h1)
    · exact Or.inl h1
    · obtain ⟨j, hj, e⟩ := List.getElem_of_mem h1
      exact Or.inr ⟨j, by omega, by rw [gi_lt hj]; exact e⟩
end If
end Go.Df
namespace Go.Proofs.YtooejoajojanjaaGreatDoor
open Go.RowKit Go.Df Go.Df.If
attribute [local go_sem ↓] Go.wp_at_zero Go.wp_at_succ
theorem mapIB : Tryz.prog.underlying 124 = some (.map 3 4) := by kernel_rfl
theorem run_makeMapH (w : World) (z : Int) : (Instr.makeMap 124 (some (.int .i64 z))).run Tryz.prog w = .ok (.map (some w.heap.size)) (w.alloc (.map #[] 0)) := by
  simp [Instr.makeMap, run_underlying mapIB, asInt, asIntOf, Result.andThen]
theorem pEltT : plainElem (H := Unit) Tryz.prog 4 (.bool true) = some (.lit (.bool true), []) := plainElem_bool (H := Unit) Tryz.undBool true
set_option maxRecDepth 100000 in
set_option maxHeartbeats 8000000 in
theorem apply_any (A B : Option Addr) (n c m d : Nat) (f : List Pr) (l : List Int) (w : World) (hf : Prs w A n f) (hB : Ints w B m l) (hn : n ≤ 10000) (hm : m ≤ 100000) (hwf : ∀ x ∈ l, (Lit.int .i64 x).wf = true) (hwp : ∀ q ∈ f, (Lit.int .i64 q.i).wf = true) :
    Calls Tryz.prog 37 #[.slice A n c, .slice B m d] w (GetF w (applyF f l)) := by
  obtain ⟨i1, hj, hy0, hy1, hy2⟩ := info_parts intf_info
  have HF := Lib.hid hf
  have HG := Lib.hid hB
  have HLF := Lib.hid hf.1
  have HLG := Lib.hid hB.1
  have HWF := Lib.hid hwf
  have HWP := Lib.hid hwp
  clear hf hB hwf hwp
  have hmm := run_makeMapH
  have HK0 := Lib.hid (Tryz.keyInt 0 (by decide))
  have HG1 := Lib.hid (show mbF l 0 (.int .i64 0) = .bool true from congrArg Lit.bool (decide_eq_true (Or.inl rfl)))
  have HG2 : Hid (∀ x, x ≠ Value.int .i64 0 → mbF l 0 x = .bool false) := Lib.hid (fun x hx => by
    unfold mbF
    split
    · rename_i z
      refine congrArg Lit.bool (decide_eq_false ?_)
      rintro (h | ⟨j, hj, -⟩)
      · subst h; exact hx rfl
      · omega
    · rfl)
  go_enter Tryz.func37, Tryz.ntmps37
  go_upto_region 2 with fail
  refine wp_named (fun V => ∃ p, w.heap.size = p ∧ MapV Tryz.prog 3 4 (.bool false) V p 0 (fun _ => .bool false) ∧ Kept [] w V) ⟨_, rfl, MapV.made _ _ _ _ _ _ rfl, (Kept.refl _ _).alloc _⟩ ?_
  rintro V ⟨p, ep, Mp, hkV⟩
  rw [ep]
  have hpw : w.heap.size ≤ p := by omega
  have MP := Lib.hid Mp
  clear hmm ep Mp
  go_upto_region 3 with (at_mapUpdate; refine wpList_store_map _ rfl _ _ _ 124 rfl 3 4 Tryz.lawInt mapIB (.bool false) p 0 _ rfl MP.out (by unfold maxLen; omega) (.int .i64 0) (.bool true) (.int .i64 0) _ rfl rfl HK0.out pEltT (mbF l 0) HG1.out (fun x hx => HG2.out x hx) ?_; intro w1 M1u hs1; have M1 := Lib.hid M1u; clear M1u)
  have hk1 : Kept [] w w1 := kept_fresh hkV hs1 (by simpa using hpw)
  clear MP hs1 hkV
  go_wp2_with fail
  go_loopw [18] (fun i wr => ∃ j : Nat, j ≤ m ∧ i = .int .i64 j ∧ Kept [] w wr ∧ Hid (MapV Tryz.prog 3 4 (.bool false) wr p (1 + j) (mbF l j))) (fun i _ => m - (intOf i).toNat)
  case atStart => exact ⟨0, Nat.zero_le _, rfl, hk1, M1⟩
  case round =>
  clear M1 hk1
  obtain ⟨j, hj', rfl, hkr, mp⟩ := hrel
  by_cases hlt : j < m
  · obtain ⟨b, o, rfl, hl, hc⟩ := HG.out.2 (by omega)
    have h1 := (hkr.cell b _ hl (by simp)).trans (hc j hlt)
    obtain ⟨y, en⟩ : ∃ y, gi l j = y := ⟨_, rfl⟩
    rw [en] at h1
    have hlr : b < wr.heap.size := Nat.lt_of_lt_of_le hl hkr.size
    have hj9 : (j : Int) < (m : Int) := by omega
    have HKY := Lib.hid (Tryz.keyInt y (by rw [← en, gi_lt (by rw [HLG.out]; exact hlt)]; exact HWF.out _ (List.getElem_mem _)))
    have HS1 := Lib.hid (mbF_succ en).1
    have HS2 := Lib.hid (mbF_succ en).2
    clear hc en
    go_wp2_with (at_mapUpdate; refine wpList_store_map _ rfl _ _ _ 124 rfl 3 4 Tryz.lawInt mapIB (.bool false) p (1 + j) _ rfl mp.out (by unfold maxLen; omega) (.int .i64 y) (.bool true) (.int .i64 y) _ rfl rfl HKY.out pEltT (mbF l (j + 1)) HS1.out HS2.out ?_; intro w2 M2u hs2; have M2 := Lib.hid M2u; clear M2u)
    exact ⟨⟨j + 1, by omega, by go_num, kept_fresh hkr hs2 (by simpa using hpw), M2⟩, by simp [intOf]; omega⟩
  obtain rfl : j = m := by omega
  have MP2 : Hid (MapV Tryz.prog 3 4 (.bool false) wr p (1 + j) (mbF l j)) := mp
  clear hlt hj'
  go_wp2_with fail
  go_loopw [8, 27] (fun s8 i wz => ∃ (i' : Nat) (Q : Option Addr) (k cQ : Nat), i' ≤ n ∧ i = .int .i64 i' ∧ s8 = .slice Q k cQ ∧ Kept [] wr wz ∧ (apI f l i').length = k ∧ k ≤ i' ∧ Hid (wz.ownsRow wr.heap.size 3 1 (.slice Q k cQ) k ((apI f l i').map (Value.int .i64)))) (fun _ i _ => n - (intOf i).toNat)
  case atStart => exact ⟨0, none, 0, 0, Nat.zero_le _, rfl, rfl, Kept.refl _ _, rfl, by omega, Lib.hid (World.ownsRow_nil _ _ _ _)⟩
  case round =>
  rename World => wz
  obtain ⟨i, Q, k, cQ, hi, rfl, rfl, hkz, hok, hki, own⟩ := hrel
  have hkwz : Kept [] w wz := keptTrans hkr hkz
  have hsz := hkz.size
  have HOK := Lib.hid hok
  have HX : Hid (∀ y ∈ (Value.slice Q k cQ).ownBlock.toList, wr.heap.size ≤ y) := (fun y hy => own_ge own.out (by simpa using hy))
  clear hok
  by_cases hlt : i < n
  case neg =>
    obtain rfl : i = n := by omega
    have HU : Hid (ascF (apI f l i) = applyF f l) := Lib.hid (by rw [apI_all (Nat.le_of_eq HLF.out)]; rfl)
    go_upto_region 16 with (go_at_call 69; refine (sort_own _ own.out (by omega)).mono ?_; rintro e w2 ⟨rfl, hown2, hk2⟩)
    have OW2 := Lib.hid hown2
    clear hown2
    go_wp2_with (go_at_call 70; refine (compact_own _ OW2.out (by omega)).mono ?_; rintro e w3 ⟨rfl, hown3, hk3⟩)
    go_ret
    have e9 : Lib.compact ((apI f l i).mergeSort fun x y => decide (x ≤ y)) = applyF f l := (sorted_compact _).trans HU.out
    obtain ⟨h1, h2⟩ := Ints.ofOwn hown3
    refine ⟨Q, _, cQ, rfl, by rw [← e9]; exact h1, h2, ?_⟩
    have h3 := hkz.next hk2 (fun y hy => Or.inr (HX.out y hy))
    exact (keptTrans hkr (h3.next hk3 (fun y hy => Or.inr (HX.out y hy)))).toBelow
  obtain ⟨b, o, rfl, hl, hc⟩ := HF.out.2 (by omega)
  have h1 := (hkwz.cell b _ hl (by simp)).trans (hc i hlt).1
  have h2 := (hkwz.cell b _ hl (by simp)).trans (hc i hlt).2
  obtain ⟨yi, yo, en⟩ : ∃ yi yo, gp f i = ⟨yi, yo⟩ := ⟨_, _, rfl⟩
  rw [en] at h1 h2
  have hlr : b < wz.heap.size := Nat.lt_of_lt_of_le hl hkwz.size
  have hi9 : (i : Int) < (n : Int) := by omega
  have HS : Hid (apI f l (i + 1) = apI f l i ++ (if yo ≠ 0 ∧ (yi = 0 ∨ yi ∈ l) then [yo] else [])) := Lib.hid (by rw [apI_succ (by rw [HLF.out]; exact hlt), en])
  have HKY := Lib.hid (Tryz.keyInt yi (by have := HWP.out _ (gp_mem (l := f) (i := i) (by rw [HLF.out]; exact hlt)); rw [en] at this; exact this))
  clear hc en
  go_upto_region 12 with fail
  refine wp_named (fun X => ∃ g, wz.heap.size = g ∧ Blk X g [.int .i64 yi, .int .i64 yo] ∧ Kept [] wz X) ⟨_, rfl, Blk.new _ _ _ _ rfl, (Kept.refl _ _).alloc _⟩ ?_
  rintro X ⟨g, eg, Bg, hkX⟩
  rw [eg]
  have ⟨LG, CG, FG⟩ := Bg
  have hkrX : Kept [] wr X := keptTrans hkz hkX
  have OWX := Lib.hid (own_keptT (X := []) own.out hkX (by simp))
  have MX := Lib.hid (MP2.out.kept hkrX (by simp))
  have hsX := hkrX.size
  clear eg h1 h2 hlr own
  have HAP := Lib.hid (ints_snoc (apI f l i) yo)
  by_cases q0 : yo = 0
  · have z0 : (yo != 0) = false := by simp [q0]
    have HS2 : Hid (apI f l (i + 1) = apI f l i) := Lib.hid (by rw [HS.out, if_neg (fun h => h.1 q0), List.append_nil])
    clear q0
    go_wp2_with fail
    exact ⟨⟨i + 1, Q, k, cQ, by omega, by go_num, rfl, hkrX, by rw [HS2.out, HOK.out], by omega, by rw [HS2.out]; exact OWX⟩, by simp [intOf]; omega⟩
  have z0 : (yo != 0) = true := by simpa using q0
  obtain ⟨v, hv⟩ : ∃ v, decide (yi = 0 ∨ yi ∈ l) = v := ⟨_, rfl⟩
  have HV := Lib.hid (show mbF l j (.int .i64 yi) = .bool v by rw [mbF_all HLG.out, hv])
  have HV2 := Lib.hid hv
  clear hv
  cases v with
  | true =>
    have HS2 : Hid (apI f l (i + 1) = apI f l i ++ [yo]) := Lib.hid (by rw [HS.out, if_pos ⟨q0, of_decide_eq_true HV2.out⟩])
    clear q0
    go_wp2_with (first
      | (at_lookup; refine wpList_look_boolg _ rfl _ _ 124 rfl 3 4 Tryz.lawInt mapIB Tryz.undBool (Tryz.zeroBool _) p (1 + j) _ rfl MX.out (.int .i64 yi) _ rfl HKY.out true HV.out ?_)
      | (at_builtin; refine wpList_append_rd _ rfl _ _ 31 rfl wr.heap.size 3 i1 (.int .i64 0) 1 8 Tryz.underlying31 hj hy0 hy1 hy2 rfl (by decide) (.slice Q k cQ) k _ rfl (own_keptT (X := []) OWX.out ((Kept.refl _ _).alloc _) (by simp)) (some ⟨X.heap.size, 0, none⟩) 1 1 [.int .i64 yo] rfl (Rd.new1 _ _ _ _ rfl) (fun h => by cases h) (by intro u hu; simp at hu; subst hu; rfl) (k + 1) rfl _ HAP.out (by unfold maxLen; omega) (by omega) (by simp; omega) ?_; intro A9 c9 w9 hown4 hk4 hat4; have hk5 := Lib.hid ((hkrX.alloc (.cells #[.int .i64 yo] 3)).next hk4 (fun y hy => Or.inr (HX.out y hy))); have HO4 := Lib.hid hown4; clear hown4 hk4 hat4))
    exact ⟨⟨i + 1, A9, k + 1, c9, by omega, by go_num, rfl, hk5.out, by rw [HS2.out, List.length_append, HOK.out]; rfl, by omega, by rw [HS2.out]; exact HO4⟩, by simp [intOf]; omega⟩
  | false =>
    have HS2 : Hid (apI f l (i + 1) = apI f l i) := Lib.hid (by rw [HS.out, if_neg (fun h => of_decide_eq_false HV2.out h.2), List.append_nil])
    clear q0
    go_wp2_with (at_lookup; refine wpList_look_boolg _ rfl _ _ 124 rfl 3 4 Tryz.lawInt mapIB Tryz.undBool (Tryz.zeroBool _) p (1 + j) _ rfl MX.out (.int .i64 yi) _ rfl HKY.out false HV.out ?_)
    exact ⟨⟨i + 1, Q, k, cQ, by omega, by go_num, rfl, hkrX, by rw [HS2.out, HOK.out], by omega, by rw [HS2.out]; exact OWX⟩, by simp [intOf]; omega⟩
end Go.Proofs.YtooejoajojanjaaGreatDoor
namespace Go.Df
open Go.RowKit Go.ChangeShapes Go.WideShapes
theorem cell_lt {w : World} {p : Addr} {v : Value} (h : w.cell? p = some v) : p.block < w.heap.size := by
  rcases Nat.lt_or_ge p.block w.heap.size with h1 | h1
  · exact h1
  · simp [World.cell?, Array.getElem?_eq_none h1] at h
section
variable {H : Type} {enc : TypeId × Value → H} {P : Program} {w w' : World} {base : Nat} {held : Bool}
theorem map_some {β γ : Type} {o : Option β} {f : β → γ} {x : γ} (h : o.map f = some x) : ∃ y, o = some y ∧ f y = x := by
  cases o with
  | none => simp at h
  | some y => exact ⟨y, rfl, by simpa using h⟩
/-- A type whose parts are among the first N types; no slice of elements without cells. -/
def closedB (P : Program) (N : Nat) (t : TypeId) : Bool :=
  match P.underlying t with
  | some (.slice e) => decide (e < N) && decide (0 < P.cellsOf e)
  | some (.pointer e) => decide (e < N)
  | some (.struct fs) => fs.toList.all (fun f => decide (f.type < N))
  | some (.array _ e) => decide (e < N)
  | some (.map _ e) => decide (e < N)
  | _ => true
end
end Go.Df
namespace Go.Df
open Go.RowKit
namespace If
def gbl (l : List Bool) (i : Nat) : Bool := l.getD i false
def gil (l : List (List Int)) (i : Nat) : List Int := l.getD i []
/-- A slice of truths; of slices of numbers. -/
def Bls (w : World) (A : Option Addr) (n : Nat) (l : List Bool) : Prop :=
  l.length = n ∧ (0 < n → ∃ b o, A = some ⟨b, o, none⟩ ∧ b < w.heap.size ∧ ∀ i, i < n → w.cell? ⟨b, o + i, none⟩ = some (.bool (gbl l i)))
theorem Bls.later {w w' : World} {A : Option Addr} {n : Nat} {l : List Bool} (h : Bls w A n l) (hb : Below w.heap.size w w') : Bls w' A n l :=
  ⟨h.1, fun hn => by
    obtain ⟨b, o, e, hl, hc⟩ := h.2 hn
    exact ⟨b, o, e, Nat.lt_of_lt_of_le hl hb.size, fun i hi => (hb.cell (p := ⟨b, _, none⟩) hl).trans (hc i hi)⟩⟩
def IntsR (w : World) (A : Option Addr) (n : Nat) (ls : List (List Int)) : Prop :=
  ls.length = n ∧ (0 < n → ∃ b o, A = some ⟨b, o, none⟩ ∧ b < w.heap.size ∧ ∀ i, i < n → ∃ Ai ni ci, w.cell? ⟨b, o + i, none⟩ = some (.slice Ai ni ci) ∧ Ints w Ai ni (gil ls i) ∧ ni ≤ 9223372036854775807)
theorem IntsR.later {w w' : World} {A : Option Addr} {n : Nat} {ls : List (List Int)} (h : IntsR w A n ls) (hb : Below w.heap.size w w') : IntsR w' A n ls :=
  ⟨h.1, fun hn => by
    obtain ⟨b, o, e, hl, hc⟩ := h.2 hn
    refine ⟨b, o, e, Nat.lt_of_lt_of_le hl hb.size, fun i hi => ?_⟩
    obtain ⟨Ai, ni, ci, h1, h2, h3⟩ := hc i hi
    exact ⟨Ai, ni, ci, (hb.cell (p := ⟨b, _, none⟩) hl).trans h1, h2.later hb, h3⟩⟩
/-- Does a fact hold at a node of a solution? -/
def holdsS (re : List Bool) (fs : List (List Int)) (node fact : Int) : Bool :=
  if node < 0 then false else if fact = 0 then decide (node.toNat < re.length) && gbl re node.toNat else decide (node.toNat < fs.length) && decide (fact ∈ gil fs node.toNat)
theorem mem_upto {l : List Int} {x : Int} {k : Nat} (hk : k < l.length) (e : gi l k = x) : x ∈ l := by
  rw [gi_lt hk] at e
  exact e ▸ List.getElem_mem hk
theorem not_mem_upto {l : List Int} {x : Int} (h : ∀ j, j < l.length → gi l j ≠ x) : ¬ x ∈ l := by
  intro hm
  obtain ⟨j, hj, e⟩ := List.getElem_of_mem hm
  exact h j hj ((gi_lt hj).trans e)
end If
end Go.Df
namespace Go.Proofs.YtooejoajojanjaaGreatDoor
open Go.RowKit Go.Df Go.Df.If
attribute [local go_sem ↓] Go.wp_at_zero Go.wp_at_succ
set_option maxHeartbeats 1000000 in
theorem rhas_any (A : Option Addr) (n c : Nat) (l : List Int) (x : Int) (w : World) (hr : Ints w A n l) (hn : n ≤ 9223372036854775807) :
    Calls Tryz.prog 66 #[.slice A n c, .int .i64 x] w fun e w' => e = .returned (.bool (decide (x ∈ l))) ∧ w = w' := by
  have HR := Lib.hid hr
  have HL := Lib.hid hr.1
  clear hr
  go_enter Tryz.func66, Tryz.ntmps66
  go_wp2
  go_loop [5] (fun i => ∃ k : Nat, k ≤ n ∧ i = .int .i64 k ∧ Hid (∀ j, j < k → gi l j ≠ x)) (fun i => n - (intOf i).toNat)
  case atStart => exact ⟨0, Nat.zero_le _, rfl, Lib.hid (fun j hj => absurd hj (by omega))⟩
  case round =>
    obtain ⟨k, hk, rfl, hj⟩ := hrel
    by_cases hlt : k < n
    · obtain ⟨b, o, rfl, hl, hc⟩ := HR.out.2 (by omega)
      have hcell := hc k hlt
      have hk1 : (k : Int) < (n : Int) := by omega
      obtain ⟨v, hv⟩ : ∃ v, gi l k = v := ⟨_, rfl⟩
      rw [hv] at hcell
      have HV := Lib.hid hv
      clear hc hv
      by_cases e : v = x
      · have e1 : (v == x) = true := by simpa using e
        have HM : Hid (x ∈ l) := Lib.hid (mem_upto (by rw [HL.out]; exact hlt) (HV.out.trans e))
        clear e
        go_wp2
        go_ret
        exact ⟨ret_bool (decide_eq_true HM.out).symm, rfl⟩
      · have e1 : (v == x) = false := by simpa using e
        have HJ : Hid (∀ j, j < k + 1 → gi l j ≠ x) := fun j h1 => by
          rcases Nat.lt_or_ge j k with h2 | h2
          · exact hj.out j h2
          · obtain rfl : j = k := by omega
            rw [HV.out]; exact e
        clear e
        go_wp2
        go_round
        case rel => exact ⟨k + 1, by omega, by go_num, HJ⟩
        case measure => simp [intOf]; omega
    · have HM : Hid (¬ x ∈ l) := Lib.hid (not_mem_upto (fun j h1 => hj.out j (by rw [HL.out] at h1; omega)))
      go_wp2
      go_ret
      exact ⟨ret_bool (decide_eq_false HM.out).symm, rfl⟩
set_option maxRecDepth 100000 in
set_option maxHeartbeats 4000000 in
theorem rapply_any (A B : Option Addr) (n c m d : Nat) (f : List Pr) (l : List Int) (w : World) (hf : Prs w A n f) (hB : Ints w B m l) (hn : n ≤ 10000) (hm : m ≤ 100000) :
    Calls Tryz.prog 38 #[.slice A n c, .slice B m d] w (GetF w (applyF f l)) := by
  have HF := Lib.hid hf
  have HG := Lib.hid hB
  have HLF := Lib.hid hf.1
  clear hf hB
  go_enter Tryz.func38, Tryz.ntmps38
  go_wp2_with fail
  go_loopw [5, 6] (fun s5 s6 wr => ∃ (i : Nat) (Q : Option Addr) (k cQ : Nat), i ≤ n ∧ s6 = .int .i64 i ∧ s5 = .slice Q k cQ ∧ Kept [] w wr ∧ Hid (Ints wr Q k (ascF (apI f l i))) ∧ k ≤ cQ ∧ k ≤ i) (fun _ s6 _ => n - (intOf s6).toNat)
  case atStart => exact ⟨0, none, 0, 0, Nat.zero_le _, rfl, rfl, Kept.refl _ _, Lib.hid (Ints.empty _ _), by omega, by omega⟩
  case round =>
  obtain ⟨i, Q, k, cQ, hi, rfl, rfl, hkr, HQ, hkc, hki⟩ := hrel
  by_cases hlt : i < n
  case neg =>
    obtain rfl : i = n := by omega
    have HU : Hid (ascF (apI f l i) = applyF f l) := Lib.hid (by rw [apI_all (Nat.le_of_eq HLF.out)]; rfl)
    go_wp2_with fail
    go_ret
    exact ⟨Q, k, cQ, rfl, by rw [← HU.out]; exact HQ.out, hkc, hkr.toBelow⟩
  obtain ⟨b, o, rfl, hl, hc⟩ := HF.out.2 (by omega)
  have h1 := (hkr.cell b _ hl (by simp)).trans (hc i hlt).1
  have h2 := (hkr.cell b _ hl (by simp)).trans (hc i hlt).2
  obtain ⟨yi, yo, en⟩ : ∃ yi yo, gp f i = ⟨yi, yo⟩ := ⟨_, _, rfl⟩
  rw [en] at h1 h2
  have hlr : b < wr.heap.size := Nat.lt_of_lt_of_le hl hkr.size
  have hi9 : (i : Int) < (n : Int) := by omega
  have HS : Hid (apI f l (i + 1) = apI f l i ++ (if yo ≠ 0 ∧ (yi = 0 ∨ yi ∈ l) then [yo] else [])) := Lib.hid (by rw [apI_succ (by rw [HLF.out]; exact hlt), en])
  clear hc en
  by_cases q0 : yo = 0
  · have z0 : (yo != 0) = false := by simp [q0]
    have HS2 : Hid (apI f l (i + 1) = apI f l i) := Lib.hid (by rw [HS.out, if_neg (fun h => h.1 q0), List.append_nil])
    clear q0
    go_wp2_with fail
    exact ⟨⟨i + 1, Q, k, cQ, by omega, by go_num, rfl, hkr, Lib.hid (by rw [HS2.out]; exact HQ.out), hkc, by omega⟩, by simp [intOf]; omega⟩
  have z0 : (yo != 0) = true := by simpa using q0
  by_cases q1 : yi = 0
  · have z1 : (yi == 0) = true := by simp [q1]
    have HS2 : Hid (ascF (apI f l (i + 1)) = withF (ascF (apI f l i)) yo) := Lib.hid (by rw [HS.out, if_pos ⟨q0, Or.inl q1⟩]; unfold ascF; rw [List.foldl_append]; rfl)
    have HLN : Hid ((apI f l (i + 1)).length ≤ i + 1) := Lib.hid (apI_len f l (i + 1))
    clear q0 q1
    go_wp2_with (go_at_call 71; refine (rwithf_any Q k cQ _ yo _ HQ.out (by omega) hkc).mono ?_; rintro e w3 ⟨Q3, k3, c3, rfl, hq3, hk3, hb3⟩)
    have hlen : k3 ≤ i + 1 := by
      have h7 := ascF_len (apI f l (i + 1))
      rw [HS2.out, hq3.1] at h7
      exact Nat.le_trans h7 HLN.out
    exact ⟨⟨i + 1, Q3, k3, c3, by omega, by go_num, rfl, hkr.call hb3, Lib.hid (by rw [HS2.out]; exact hq3), hk3, hlen⟩, by simp [intOf]; omega⟩
  have z1 : (yi == 0) = false := by simpa using q1
  by_cases q2 : yi ∈ l
  · have z2 : decide (yi ∈ l) = true := decide_eq_true q2
    have HZ := Lib.hid z2
    have HS2 : Hid (ascF (apI f l (i + 1)) = withF (ascF (apI f l i)) yo) := Lib.hid (by rw [HS.out, if_pos ⟨q0, Or.inr q2⟩]; unfold ascF; rw [List.foldl_append]; rfl)
    have HLN : Hid ((apI f l (i + 1)).length ≤ i + 1) := Lib.hid (apI_len f l (i + 1))
    clear q0 q1 q2 z2
    go_wp2_with (first
      | (go_at_call 66; refine (rhas_any B m d l yi _ (HG.out.kept hkr) (by omega)).mono ?_; rw [HZ.out]; rintro e w3 ⟨rfl, rfl⟩)
      | (go_at_call 71; refine (rwithf_any Q k cQ _ yo _ HQ.out (by omega) hkc).mono ?_; rintro e w3 ⟨Q3, k3, c3, rfl, hq3, hk3, hb3⟩))
    have hlen : k3 ≤ i + 1 := by
      have h7 := ascF_len (apI f l (i + 1))
      rw [HS2.out, hq3.1] at h7
      exact Nat.le_trans h7 HLN.out
    exact ⟨⟨i + 1, Q3, k3, c3, by omega, by go_num, rfl, hkr.call hb3, Lib.hid (by rw [HS2.out]; exact hq3), hk3, hlen⟩, by simp [intOf]; omega⟩
  · have z2 : decide (yi ∈ l) = false := decide_eq_false q2
    have HZ := Lib.hid z2
    have HS2 : Hid (apI f l (i + 1) = apI f l i) := Lib.hid (by rw [HS.out, if_neg (fun h => h.2.elim q1 q2), List.append_nil])
    clear q0 q1 q2 z2
    go_wp2_with (go_at_call 66; refine (rhas_any B m d l yi _ (HG.out.kept hkr) (by omega)).mono ?_; rw [HZ.out]; rintro e w3 ⟨rfl, rfl⟩)
    exact ⟨⟨i + 1, Q, k, cQ, by omega, by go_num, rfl, hkr, Lib.hid (by rw [HS2.out]; exact HQ.out), hkc, by omega⟩, by simp [intOf]; omega⟩
end Go.Proofs.YtooejoajojanjaaGreatDoor
namespace Go.Df
open Go.RowKit
/-- A block of these cells, of this type. -/
def TBlk (w : World) (g : Nat) (t : TypeId) (C : List Value) : Prop := w.heap[g]? = some (.cells C.toArray t (0, 0))
theorem TBlk.new (w : World) (C : List Value) (t : TypeId) (g : Nat) (hg : g = w.heap.size) : TBlk (w.alloc (.cells C.toArray t)) g t C := by
  subst hg
  exact heap_alloc_new w _
theorem TBlk.blk {w : World} {g : Nat} {t : TypeId} {C : List Value} (h : TBlk w g t C) : Blk w g C :=
  ⟨(Array.getElem?_eq_some_iff.1 h).1, fun i => by
    unfold TBlk at h
    simp [World.cell?, h], fun i => by
    unfold TBlk at h
    simp [World.frozen?, h]⟩
theorem TBlk.kept {w w' : World} {g : Nat} {t : TypeId} {C : List Value} (h : TBlk w g t C) (hk : Kept [] w w') : TBlk w' g t C := (hk.block g (Array.getElem?_eq_some_iff.1 h).1 (by simp)).trans h
theorem TBlk.fb {u8 : TypeId} {B b : Nat} {w w' : World} {g : Nat} {t : TypeId} {C : List Value} (h : TBlk w g t C) (hf : Fb u8 B b w w') (hg : g ≠ b) (ht : t ≠ u8) : TBlk w' g t C :=
  hf.2 g _ h (by simpa using hg) (fun c fz e => ht (by injection e))
theorem TBlk.ints1 {w : World} {g : Nat} {t : TypeId} {x : Int} (h : TBlk w g t [.int .i64 x]) : Ints w (some ⟨g, 0, none⟩) 1 [x] :=
  ⟨rfl, fun _ => ⟨_, _, rfl, h.blk.1, fun i hi => by
    have h9 := h.blk.2.1 (0 + i)
    match i, hi with
    | 0, _ => exact h9⟩⟩
theorem TBlk.ints2 {w : World} {g : Nat} {t : TypeId} {x y : Int} (h : TBlk w g t [.int .i64 x, .int .i64 y]) : Ints w (some ⟨g, 0, none⟩) 2 [x, y] :=
  ⟨rfl, fun _ => ⟨_, _, rfl, h.blk.1, fun i hi => by
    have h9 := h.blk.2.1 (0 + i)
    match i, hi with
    | 0, _ => exact h9
    | 1, _ => exact h9⟩⟩
namespace If
open Sp
theorem txt_take {L : List Su} {i : Nat} (hi : i < L.length) : txt (L.take (i + 1)) = txt (L.take i) ++ txS (gS L i) := by
  have e : gS L i = L[i] := by unfold gS; simp [List.getD, hi]
  rw [List.take_succ_eq_append_getElem hi, txt_app, e]
  simp [txt]
theorem txt_mono {L : List Su} {i : Nat} : (txt (L.take i)).length ≤ (txt L).length := by
  have h : L = L.take i ++ L.drop i := (List.take_append_drop i L).symm
  have h2 : txt L = txt (L.take i) ++ txt (L.drop i) := by rw [← txt_app, ← h]
  rw [h2, List.length_append]
  omega
theorem flat_take {l : List Pr} {j : Nat} {f : Pr → Bs} (hj : j < l.length) : (l.take (j + 1)).flatMap f = (l.take j).flatMap f ++ f (gp l j) := by
  rw [List.take_succ_eq_append_getElem hj, List.flatMap_append, gp_lt hj]
  simp
end If
end Go.Df
namespace Go.Proofs.YtooejoajojanjaaGreatDoor
open Go.RowKit Go.Df Go.Df.If Go.Sort
attribute [local go_sem ↓] Go.wp_at_zero Go.wp_at_succ
theorem nums1 (w : Bs) (a : Int) : w ++ numsB [a] ++ [10] = ln1 w a := by simp [numsB, ln1]
theorem nums2 (w : Bs) (p : Pr) : w ++ numsB [p.i, p.o] ++ [10] = ln2 w p := by simp [numsB, ln2]
theorem ln2_len {w : Bs} {p : Pr} (hw : w.length ≤ 10) (h1 : 0 ≤ p.i ∧ p.i < 1024) (h2 : 0 ≤ p.o ∧ p.o < 1024) : (ln2 w p).length ≤ 100 := by
  have a := itoa_len h1.1 (show p.i < 1000000000 by omega)
  have b := itoa_len h2.1 (show p.o < 1000000000 by omega)
  unfold ln2
  simp
  omega
theorem flat_len {w : Bs} {F : Int} (hF : F ≤ 1024) (hw : w.length ≤ 10) : ∀ {l : List Pr}, (∀ p ∈ l, (0 ≤ p.i ∧ p.i < F) ∧ 0 ≤ p.o ∧ p.o < F) → (l.flatMap (ln2 w)).length ≤ l.length * 100
  | [], _ => by simp
  | p :: l, h => by
    have h1 := h p (by simp)
    have h2 := ln2_len (p := p) hw ⟨h1.1.1, by omega⟩ ⟨h1.2.1, by omega⟩
    have h3 := flat_len (l := l) hF hw fun q hq => h q (List.mem_cons_of_mem _ hq)
    rw [List.flatMap_cons, List.length_append, List.length_cons]
    omega
/-- The inner loops' bytes so far. -/
def exS (u : Su) (j : Nat) : Bs := ln1 kwF u.f ++ (u.x.take j).flatMap (ln2 kwE)
def thS (u : Su) (j : Nat) : Bs := ln1 kwF u.f ++ u.x.flatMap (ln2 kwE) ++ (u.y.take j).flatMap (ln2 kwT)
set_option maxRecDepth 100000 in
set_option maxHeartbeats 8000000 in
theorem ptext_any (A : Option Addr) (n c : Nat) (L : List Su) (w : World) (hS : SmW w A n L) (hn : n ≤ 9223372036854775807) (ht : ∀ B w', B = w.heap.size → Below B w w' → Tabs B w') :
    Calls Tryz.prog 17 #[.slice A n c] w fun e w' => e = .returned (.tuple #[.string ⟨(texS L).1.toArray⟩, .int .i64 (texS L).2]) ∧ Below w.heap.size w w' := by
  have HS := Lib.hid hS
  have HT := Lib.hid ht
  obtain ⟨pe, hpe⟩ : ∃ pe, sumErr 1024 L = pe := ⟨_, rfl⟩
  have HPE := Lib.hid hpe
  have HCK := Lib.hid (sumck_any A n c L 1024 w hS hn)
  rw [hpe] at HCK
  clear hS ht hpe
  go_enter Tryz.func17, Tryz.ntmps17
  go_upto_region 2 with (go_at_call 11; refine HCK.out.mono ?_; rintro e w1 ⟨rfl, hb1⟩)
  have HK1 : Hid (Kept [] w w1) := Lib.hid ((Kept.refl _ _).call hb1)
  by_cases h0 : pe = 0
  case neg =>
    have d0 : (pe != 0) = true := by simpa using h0
    have hE : Hid (texS L = ([], pe)) := by
      show _ = _
      unfold texS
      rw [HPE.out, if_pos h0]
    clear h0
    go_wp2_with fail
    go_ret2
    rw [hE.out]
    exact ⟨rfl, hb1⟩
  subst h0
  have HOK := Lib.hid (sum_ok.1 HPE.out)
  have HLN : Hid (L.length = n) := Lib.hid HS.out.len
  have hn256 : n ≤ 256 := by have h1 := HOK.out.2.1; have h2 := HLN.out; omega
  -- k4
  go_upto_region 5 with fail
  refine wp_named (fun V => ∃ b, w1.heap.size = b ∧ TBlk V b 77 [.pointer none, .slice none 0 0] ∧ Kept [] w1 V) ⟨_, rfl, TBlk.new _ _ _ _ rfl, (Kept.refl _ _).alloc _⟩ ?_
  rintro V ⟨b, eb, TB, hkV⟩
  rw [eb]
  have HKV : Hid (Kept [] w V) := Lib.hid (keptTrans HK1.out hkV)
  have hwb : w.heap.size ≤ b := by have := HK1.out.size; omega
  have hbV : b < V.heap.size := TB.blk.1
  have HTV : Hid (Tabs w.heap.size V) := Lib.hid (HT.out _ _ rfl HKV.out.toBelow)
  have HB0 : Hid (Wbd w.heap.size b (txt (L.take 0)) V) := Lib.hid (.inl ⟨hwb, .slice none 0 0, TB, ⟨rfl, .inl ⟨rfl, rfl⟩⟩, by simp [Value.ownBlock]⟩)
  have HSV := Lib.hid (HS.out.later HKV.out.toBelow)
  have HSZ : Hid (w.heap.size ≤ V.heap.size) := Lib.hid HKV.out.size
  obtain ⟨B, hBdef⟩ : ∃ B, w.heap.size = B := ⟨_, rfl⟩
  rw [hBdef] at HTV HB0 HSZ hwb
  have HBD := Lib.hid hBdef
  clear eb TB hkV hBdef
  -- k6
  go_wp2_with fail
  go_loopw [21] (fun s wr => ∃ i : Nat, i ≤ n ∧ s = .int .i64 i ∧ Hid (Wbd B b (txt (L.take i)) wr) ∧ Hid (FbT B b V wr) ∧ Hid ((txt (L.take i)).length ≤ 65536)) (fun s _ => n - (intOf s).toNat)
  case atStart => exact ⟨0, Nat.zero_le _, rfl, HB0, Lib.hid (Fb.refl _ _ _ _), Lib.hid (by simp [txt])⟩
  case round =>
  obtain ⟨i, hi, rfl, HBR, HFR, HLE⟩ := hrel
  have HBW : Hid (Below B w wr) := Lib.hid (by have h1 := HKV.out.toBelow; rw [HBD.out] at h1; exact h1.trans HFR.out.1)
  have hBr : B ≤ wr.heap.size := by have h1 := HSZ.out; have h2 := HFR.out.1.size; omega
  by_cases hlt : i < n
  case neg =>
    obtain rfl : i = n := by omega
    have HTK : Hid (L.take i = L) := Lib.hid (List.take_of_length_le (by rw [HLN.out]; exact Nat.le_refl _))
    have hE : Hid (texS L = (txt L, 0)) := by
      show _ = _
      unfold texS
      rw [HPE.out, if_neg (by simp), if_neg (by have h9 := HLE.out; rw [HTK.out] at h9; omega)]
    have HBT : Hid (Wbd B b (txt L) wr) := Lib.hid (by have h9 := HBR.out; rw [HTK.out] at h9; exact h9)
    go_wp2_with (go_at_call 44; refine (wstring_any B b (txt L) _ HBT.out hBr).mono ?_; rintro e w9 ⟨rfl, hb9⟩)
    go_ret2
    rw [hE.out]
    exact ⟨rfl, by rw [HBD.out]; exact HBW.out.trans hb9⟩
  -- kround
  have HBW0 : Hid (Below w.heap.size w wr) := Lib.hid (by have h9 := HBW.out; rw [← HBD.out] at h9; exact h9)
  obtain ⟨bL, oL, rfl, hl, hc⟩ := (HS.out.later HBW0.out).mem (by omega)
  obtain ⟨E, ne, ce, T, nt, ct, c0, c1, c2, hpx, hpy⟩ := hc i hlt
  have hok := HOK.out.2.2 i (by rw [HLN.out]; exact hlt)
  have HTX : Hid (txt (L.take (i + 1)) = txt (L.take i) ++ txS (gS L i)) := Lib.hid (txt_take (by rw [HLN.out]; exact hlt))
  have hfr : 0 ≤ (gS L i).f ∧ (gS L i).f < 256 := by
    have h9 := hok.1
    unfold fnErr at h9
    split at h9
    · cases h9
    · omega
  obtain ⟨u, hu⟩ : ∃ u, gS L i = u := ⟨_, rfl⟩
  rw [hu] at c0 hpx hpy hok hfr HTX
  obtain ⟨f, ef⟩ : ∃ f, u.f = f := ⟨_, rfl⟩
  rw [ef] at c0 hfr
  have HEF := Lib.hid ef
  have HRX : Hid (∀ p ∈ u.x, (0 ≤ p.i ∧ p.i < 1024) ∧ 0 ≤ p.o ∧ p.o < 1024) := Lib.hid (fun p hp => ls_rng hok.2.1 hp)
  have HRY : Hid (∀ p ∈ u.y, (0 ≤ p.i ∧ p.i < 1024) ∧ 0 ≤ p.o ∧ p.o < 1024) := Lib.hid (fun p hp => ls_rng hok.2.2 hp)
  have hlx : u.x.length ≤ 8192 := (ls_ok.1 hok.2.1).1
  have hly : u.y.length ≤ 8192 := (ls_ok.1 hok.2.2).1
  have hfl : (ln1 kwF u.f).length ≤ 20 := by
    have h9 := itoa_len (n := u.f) (by omega) (by omega)
    unfold ln1 kwF
    simp
    omega
  have HLX : Hid (∀ j, (exS u j).length ≤ 1000000) := Lib.hid (fun j => by
    have h1 := flat_len (w := kwE) (F := 1024) (by omega) (by decide) (l := u.x.take j) (fun p hp => HRX.out p (List.mem_of_mem_take hp))
    have h2 := List.length_take_le' j u.x
    unfold exS
    rw [List.length_append]
    omega)
  have HLY : Hid (∀ j, (thS u j).length ≤ 2000000) := Lib.hid (fun j => by
    have h0 := flat_len (w := kwE) (F := 1024) (by omega) (by decide) (l := u.x) HRX.out
    have h1 := flat_len (w := kwT) (F := 1024) (by omega) (by decide) (l := u.y.take j) (fun p hp => HRY.out p (List.mem_of_mem_take hp))
    have h2 := List.length_take_le' j u.y
    unfold thS
    rw [List.length_append, List.length_append]
    omega)
  have HPX : Hid (Prs w E ne u.x) := Lib.hid (by
    obtain ⟨b9, o9, e9, l9, c9⟩ := HS.out.mem (by omega)
    obtain ⟨E', ne', ce', T', nt', ct', d0, d1, d2, q1, q2⟩ := c9 i hlt
    rw [hu] at q1 q2
    have h1 := (HBW0.out.cell (p := ⟨b9, o9 + i * 3 + 1, none⟩) l9).trans d1
    injection e9 with e9
    injection e9 with e1 e2
    subst e1 e2
    rw [c1] at h1
    injection h1 with h1
    injection h1 with h2 h3 h4
    subst h2 h3
    exact q1)
  have HPY : Hid (Prs w T nt u.y) := Lib.hid (by
    obtain ⟨b9, o9, e9, l9, c9⟩ := HS.out.mem (by omega)
    obtain ⟨E', ne', ce', T', nt', ct', d0, d1, d2, q1, q2⟩ := c9 i hlt
    rw [hu] at q1 q2
    have h1 := (HBW0.out.cell (p := ⟨b9, o9 + i * 3 + 2, none⟩) l9).trans d2
    injection e9 with e9
    injection e9 with e1 e2
    subst e1 e2
    rw [c2] at h1
    injection h1 with h1
    injection h1 with h2 h3 h4
    subst h2 h3
    exact q2)
  have hi9 : (i : Int) < (n : Int) := by omega
  clear hc hpx hpy hok hu ef
  -- k8
  go_upto_region 9 with fail
  refine wp_named (fun V1 => ∃ g, wr.heap.size = g ∧ TBlk V1 g 30 [.int .i64 f, .slice E ne ce, .slice T nt ct] ∧ Kept [] wr V1) ⟨_, rfl, TBlk.new _ _ _ _ rfl, (Kept.refl _ _).alloc _⟩ ?_
  rintro V1 ⟨g8, eg8, TB8, hkV1⟩
  rw [eg8]
  have HTB := Lib.hid TB8
  have ⟨L8, C8, F8⟩ := TB8.blk
  have HF1 : Hid (FbT B b V V1) := Lib.hid (HFR.out.trans (Fb.of_kept hkV1 hBr))
  have HB1 := Lib.hid (HBR.out.kept hkV1)
  have hB1 : B ≤ V1.heap.size := Nat.le_trans hBr hkV1.size
  have hbr : b < wr.heap.size := Nat.lt_of_lt_of_le hbV HFR.out.1.size
  have hb1 : b < V1.heap.size := Nat.lt_of_lt_of_le hbr hkV1.size
  have hg8 : g8 ≠ b := by omega
  have HT1 : Hid (Tabs B V1) := Lib.hid (HTV.out.later HF1.out.1)
  have HLL : Hid ((txt (L.take i)).length ≤ 1000000000) := Lib.hid (by have := HLE.out; omega)
  clear eg8 TB8 hkV1 c0 c1 c2 hl
  go_upto_region 10 with (go_at_call 39; refine (line_any B b (txt (L.take i)) kwF (some ⟨V1.heap.size, 0, none⟩) 1 1 [f] _ (HB1.out.kept ((Kept.refl _ _).alloc _)) (fun w' hf => (TBlk.fb (TBlk.new V1 [.int .i64 f] 3 _ rfl) hf (Nat.ne_of_gt hb1) (by decide)).ints1) (by omega) (fun x hx => by simp at hx; omega) HLL.out (by decide) (by simp; omega) (HT1.out.later (((Kept.refl [] V1).alloc _).toBelow.mono hB1))).mono ?_; rintro e w3 ⟨rfl, hb3, hf3⟩; have HB3 := Lib.hid hb3; have HF13 : Hid (FbT B b V1 w3) := Lib.hid ((Fb.of_kept ((Kept.refl [] V1).alloc _) hB1).trans hf3); clear hb3 hf3)
  have HTB3 := Lib.hid (HTB.out.fb HF13.out hg8 (by decide))
  have ⟨L83, C83, F83⟩ := HTB3.out.blk
  have HF3 : Hid (FbT B b V w3) := Lib.hid (HF1.out.trans HF13.out)
  have HBW3 : Hid (Below B w w3) := Lib.hid (by have h1 := HKV.out.toBelow; rw [HBD.out] at h1; exact h1.trans HF3.out.1)
  have hB3 : B ≤ w3.heap.size := Nat.le_trans hB1 HF13.out.1.size
  have hb3 : b < w3.heap.size := Nat.lt_of_lt_of_le hb1 HF13.out.1.size
  have HB30 : Hid (Wbd B b (txt (L.take i) ++ exS u 0) w3) := Lib.hid (by
    have h9 := HB3.out
    rw [nums1, ← HEF.out] at h9
    unfold exS
    simpa using h9)
  clear C8 F8 L8
  -- loop 1
  have hm1 : ne ≤ 8192 := by have h1 := HPX.out.1; omega
  go_wp2_with fail
  go_loopw [33] (fun s wq => ∃ j : Nat, j ≤ ne ∧ s = .int .i64 j ∧ Hid (Wbd B b (txt (L.take i) ++ exS u j) wq) ∧ Hid (FbT B b w3 wq)) (fun s _ => ne - (intOf s).toNat)
  case atStart => exact ⟨0, Nat.zero_le _, rfl, HB30, Lib.hid (Fb.refl _ _ _ _)⟩
  case round =>
  rename World => wq
  obtain ⟨j, hj, rfl, HBQ, HFQ⟩ := hrel
  have HBWQ : Hid (Below B w wq) := Lib.hid (HBW3.out.trans HFQ.out.1)
  have hBq : B ≤ wq.heap.size := Nat.le_trans hB3 HFQ.out.1.size
  have hbq : b < wq.heap.size := Nat.lt_of_lt_of_le hb3 HFQ.out.1.size
  by_cases hlj : j < ne
  case pos =>
    as_aux_lemma =>
      obtain ⟨bP, oP, rfl, hlP, hcP⟩ := (HPX.out.later (by have h9 := HBWQ.out; rw [← HBD.out] at h9; exact h9)).2 (by omega)
      obtain ⟨p1, p2⟩ := hcP j hlj
      obtain ⟨pi, po, ep⟩ : ∃ pi po, gp u.x j = ⟨pi, po⟩ := ⟨_, _, rfl⟩
      rw [ep] at p1 p2
      have hpr := HRX.out (gp u.x j) (gp_mem (by rw [HPX.out.1]; exact hlj))
      rw [ep] at hpr
      dsimp only at hpr
      obtain ⟨⟨hp1, hp2⟩, hp3, hp4⟩ := hpr
      have HSN : Hid (exS u (j + 1) = exS u j ++ ln2 kwE ⟨pi, po⟩) := by
        show _ = _
        unfold exS
        rw [flat_take (by rw [HPX.out.1]; exact hlj), ep]
        simp only [List.append_assoc]
      have HSQ : Hid (txt (L.take i) ++ exS u (j + 1) = txt (L.take i) ++ exS u j ++ (kwE ++ numsB [pi, po] ++ [10])) := by
        show _ = _
        rw [HSN.out, ← nums2]
        simp only [List.append_assoc]
      have hj1 : j + 1 ≤ ne := hlj
      have HLQ : Hid ((txt (L.take i) ++ exS u j).length ≤ 1000000000) := by
        show _ ≤ _
        have h1 := HLE.out
        have h2 := HLX.out j
        rw [List.length_append]
        omega
      have hj9 : (j : Int) < (ne : Int) := by omega
      clear hcP ep
      go_upto_region 13 with fail
      refine wp_named (fun V2 => ∃ g, wq.heap.size = g ∧ Blk V2 g [.int .i64 pi, .int .i64 po] ∧ Kept [] wq V2) ⟨_, rfl, Blk.new _ _ _ _ rfl, (Kept.refl _ _).alloc _⟩ ?_
      rintro V2 ⟨gp9, eg, Bg, hk2⟩
      rw [eg]
      have ⟨LG, CG, FG⟩ := Bg
      have HK2 := Lib.hid hk2
      have hBv : B ≤ V2.heap.size := Nat.le_trans hBq hk2.size
      have hbv : b < V2.heap.size := Nat.lt_of_lt_of_le hbq hk2.size
      have HB2 := Lib.hid (HBQ.out.kept hk2)
      have HF2 : Hid (FbT B b wq V2) := Lib.hid (Fb.of_kept hk2 hBq)
      have HT2 : Hid (Tabs B V2) := Lib.hid (HTV.out.later (HF3.out.1.trans (HFQ.out.1.trans HF2.out.1)))
      clear eg hk2 p1 p2 hlP
      go_upto_region 14 with (go_at_call 39; refine (line_any B b (txt (L.take i) ++ exS u j) kwE (some ⟨V2.heap.size, 0, none⟩) 2 2 [pi, po] _ (HB2.out.kept ((Kept.refl _ _).alloc _)) (fun w' hf => (TBlk.fb (TBlk.new V2 [.int .i64 pi, .int .i64 po] 3 _ rfl) hf (Nat.ne_of_gt hbv) (by decide)).ints2) (by omega) (fun x hx => by simp at hx; rcases hx with rfl | rfl <;> omega) HLQ.out (by decide) (by simp; omega) (HT2.out.later (((Kept.refl [] V2).alloc _).toBelow.mono hBv))).mono ?_; rintro e w6 ⟨rfl, hb6, hf6⟩; have HB6 := Lib.hid hb6; have HF6 : Hid (FbT B b V2 w6) := Lib.hid ((Fb.of_kept ((Kept.refl [] V2).alloc _) hBv).trans hf6); clear hb6 hf6)
      go_wp2_with fail
      exact ⟨⟨j + 1, hj1, by go_num, Lib.hid (by rw [HSQ.out]; exact HB6.out), Lib.hid ((HFQ.out.trans HF2.out).trans HF6.out)⟩, by simp [intOf]; omega⟩
  obtain rfl : j = ne := by omega
  have HTB5 := Lib.hid (HTB3.out.fb HFQ.out hg8 (by decide))
  have HF5 : Hid (FbT B b V wq) := Lib.hid (HF3.out.trans HFQ.out)
  have HB50 : Hid (Wbd B b (txt (L.take i) ++ thS u 0) wq) := Lib.hid (by
    have h9 := HBQ.out
    have e9 : u.x.take j = u.x := List.take_of_length_le (by rw [HPX.out.1]; exact Nat.le_refl _)
    unfold exS at h9
    rw [e9] at h9
    unfold thS
    simpa using h9)
  have ⟨L85, C85, F85⟩ := HTB5.out.blk
  clear C83 F83 L83 hlj
  go_upto_region 15 with fail
  refine wp_named (fun w5 => wq = w5) rfl ?_
  rintro w5 ew5
  rw [ew5] at HTB5 HF5 HB50 HBWQ hBq hbq C85 F85 L85
  -- loop 2
  have hm2 : nt ≤ 8192 := by have h1 := HPY.out.1; omega
  go_wp2_with fail
  go_loopw [48] (fun s wz => ∃ j : Nat, j ≤ nt ∧ s = .int .i64 j ∧ Hid (Wbd B b (txt (L.take i) ++ thS u j) wz) ∧ Hid (FbT B b w5 wz)) (fun s _ => nt - (intOf s).toNat)
  case atStart => exact ⟨0, Nat.zero_le _, rfl, HB50, Lib.hid (Fb.refl _ _ _ _)⟩
  case round =>
  rename World => wz
  obtain ⟨j, hj, rfl, HBQ, HFQ⟩ := hrel
  have HBWZ : Hid (Below B w wz) := Lib.hid (HBWQ.out.trans HFQ.out.1)
  have hBq : B ≤ wz.heap.size := Nat.le_trans hBq HFQ.out.1.size
  have hbq : b < wz.heap.size := Nat.lt_of_lt_of_le hbq HFQ.out.1.size
  by_cases hlj : j < nt
  case pos =>
    as_aux_lemma =>
      obtain ⟨bP, oP, rfl, hlP, hcP⟩ := (HPY.out.later (by have h9 := HBWZ.out; rw [← HBD.out] at h9; exact h9)).2 (by omega)
      obtain ⟨p1, p2⟩ := hcP j hlj
      obtain ⟨pi, po, ep⟩ : ∃ pi po, gp u.y j = ⟨pi, po⟩ := ⟨_, _, rfl⟩
      rw [ep] at p1 p2
      have hpr := HRY.out (gp u.y j) (gp_mem (by rw [HPY.out.1]; exact hlj))
      rw [ep] at hpr
      dsimp only at hpr
      obtain ⟨⟨hp1, hp2⟩, hp3, hp4⟩ := hpr
      have HSN : Hid (thS u (j + 1) = thS u j ++ ln2 kwT ⟨pi, po⟩) := by
        show _ = _
        unfold thS
        rw [flat_take (by rw [HPY.out.1]; exact hlj), ep]
        simp only [List.append_assoc]
      have HSQ : Hid (txt (L.take i) ++ thS u (j + 1) = txt (L.take i) ++ thS u j ++ (kwT ++ numsB [pi, po] ++ [10])) := by
        show _ = _
        rw [HSN.out, ← nums2]
        simp only [List.append_assoc]
      have hj1 : j + 1 ≤ nt := hlj
      have HLQ : Hid ((txt (L.take i) ++ thS u j).length ≤ 1000000000) := by
        show _ ≤ _
        have h1 := HLE.out
        have h2 := HLY.out j
        rw [List.length_append]
        omega
      have hj9 : (j : Int) < (nt : Int) := by omega
      clear hcP ep
      go_upto_region 18 with fail
      refine wp_named (fun V2 => ∃ g, wz.heap.size = g ∧ Blk V2 g [.int .i64 pi, .int .i64 po] ∧ Kept [] wz V2) ⟨_, rfl, Blk.new _ _ _ _ rfl, (Kept.refl _ _).alloc _⟩ ?_
      rintro V2 ⟨gp9, eg, Bg, hk2⟩
      rw [eg]
      have ⟨LG, CG, FG⟩ := Bg
      have HK2 := Lib.hid hk2
      have hBv : B ≤ V2.heap.size := Nat.le_trans hBq hk2.size
      have hbv : b < V2.heap.size := Nat.lt_of_lt_of_le hbq hk2.size
      have HB2 := Lib.hid (HBQ.out.kept hk2)
      have HF2 : Hid (FbT B b wz V2) := Lib.hid (Fb.of_kept hk2 hBq)
      have HT2 : Hid (Tabs B V2) := Lib.hid (HTV.out.later (HF5.out.1.trans (HFQ.out.1.trans HF2.out.1)))
      clear eg hk2 p1 p2 hlP
      go_upto_region 19 with (go_at_call 39; refine (line_any B b (txt (L.take i) ++ thS u j) kwT (some ⟨V2.heap.size, 0, none⟩) 2 2 [pi, po] _ (HB2.out.kept ((Kept.refl _ _).alloc _)) (fun w' hf => (TBlk.fb (TBlk.new V2 [.int .i64 pi, .int .i64 po] 3 _ rfl) hf (Nat.ne_of_gt hbv) (by decide)).ints2) (by omega) (fun x hx => by simp at hx; rcases hx with rfl | rfl <;> omega) HLQ.out (by decide) (by simp; omega) (HT2.out.later (((Kept.refl [] V2).alloc _).toBelow.mono hBv))).mono ?_; rintro e w6 ⟨rfl, hb6, hf6⟩; have HB6 := Lib.hid hb6; have HF6 : Hid (FbT B b V2 w6) := Lib.hid ((Fb.of_kept ((Kept.refl [] V2).alloc _) hBv).trans hf6); clear hb6 hf6)
      go_wp2_with fail
      exact ⟨⟨j + 1, hj1, by go_num, Lib.hid (by rw [HSQ.out]; exact HB6.out), Lib.hid ((HFQ.out.trans HF2.out).trans HF6.out)⟩, by simp [intOf]; omega⟩
  obtain rfl : j = nt := by omega
  have HTE : Hid (txt (L.take i) ++ thS u j = txt (L.take (i + 1))) := by
    show _ = _
    have e9 : u.y.take j = u.y := List.take_of_length_le (by rw [HPY.out.1]; exact Nat.le_refl _)
    rw [HTX.out, txS]
    unfold thS
    rw [e9]
  have HBZ : Hid (Wbd B b (txt (L.take (i + 1))) wz) := Lib.hid (by rw [← HTE.out]; exact HBQ.out)
  obtain ⟨ln, hln⟩ : ∃ ln, (txt (L.take (i + 1))).length = ln := ⟨_, rfl⟩
  have HLN2 := Lib.hid hln
  have HWL : Hid (Calls Tryz.prog 43 #[.pointer (some ⟨b, 0, none⟩)] wz fun e w' => e = .returned (.int .i64 ln) ∧ w' = wz) := Lib.hid (by rw [← hln]; exact wlen_any B b _ wz HBZ.out)
  clear hln hlj
  by_cases hbig : 65536 < ln
  · have g1 : decide ((65536 : Int) < (ln : Int)) = true := by simp; omega
    have hE : Hid (texS L = ([], 3)) := by
      show _ = _
      have h9 := txt_mono (L := L) (i := i + 1)
      have h8 := HLN2.out
      unfold texS
      rw [HPE.out, if_neg (by simp), if_pos (by omega)]
    clear hbig
    go_wp2_with (go_at_call 43; refine HWL.out.mono ?_; rintro e w9 ⟨rfl, rfl⟩)
    go_ret2
    rw [hE.out]
    exact ⟨rfl, by rw [HBD.out]; exact HBWZ.out⟩
  · have g1 : decide ((65536 : Int) < (ln : Int)) = false := by simp; omega
    have HLE2 : Hid ((txt (L.take (i + 1))).length ≤ 65536) := by show _ ≤ _; have := HLN2.out; omega
    clear hbig
    go_wp2_with (go_at_call 43; refine HWL.out.mono ?_; rintro e w9 ⟨rfl, rfl⟩)
    exact ⟨⟨i + 1, by omega, by go_num, HBZ, Lib.hid (HF5.out.trans HFQ.out), HLE2⟩, by simp [intOf]; omega⟩
end Go.Proofs.YtooejoajojanjaaGreatDoor
