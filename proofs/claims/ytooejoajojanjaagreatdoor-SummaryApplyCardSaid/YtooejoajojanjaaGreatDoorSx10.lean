/- Texts: Rd Lr Ka Re. -/
import Derived.Test.YtooejoajojanjaaGreatDoorSx09
import Derived.Test.YtooejoajojanjaaGreatDoorSx04
import Derived.Sort.OwnSortedInts
import Derived.Shelf.Slices.In.SortNone
import Derived.Test.YtooejoajojanjaaGreatDoorSx01
import Derived.ProofKit
import Derived.Lib.SmallJoins
import Derived.Deep.Slices
namespace Go.Df
open Go.RowKit Go.Sort Go.Proofs
theorem grow_nil (w : World) : grow w #[] = w := by simp [grow]
/-- A row of one's own, compacted. -/
theorem own_compact {w : World} {base g cap q : Nat} {e : TypeId} {ss ts zs : List Int} (hl : ts.length + zs.length = ss.length) (h : w.ownsRow base e 1 (.slice (some ⟨g, 0, none⟩) ss.length cap) ss.length (ss.map (Value.int .i64))) :
    (putRow (Value.int .i64) (Sort.ahead w q) g 0 (ts ++ zs).toArray).ownsRow base e 1 (.slice (some ⟨g, 0, none⟩) ts.length cap) ts.length (ts.map (Value.int .i64)) ∧ Kept [g] w (putRow (Value.int .i64) (Sort.ahead w q) g 0 (ts ++ zs).toArray) := by
  rcases h.2 with ⟨h0, _⟩ | ⟨g', cap', cur, hv, hg, hh, hn, hcap, hcs, htk⟩
  · cases h0
  cases hv
  refine ⟨⟨by simp, .inr ⟨g, cap, putCells (Value.int .i64) 0 (ts ++ zs).toArray cur, rfl, hg, ?_, by omega, hcap, by simpa [putCells] using hcs, ?_⟩⟩, ?_⟩
  · have := heap_sortedI (n := q) (os := #[]) (ts ++ zs).toArray hh
    rwa [grow_nil] at this
  · have h1 := take_putCellsI cur (ts ++ zs) (by rw [List.length_append]; omega)
    have h2 := congrArg (List.take ts.length) h1
    rw [List.take_take, List.length_append, Nat.min_eq_left (by omega), List.map_append, List.take_append_of_le_length (by simp), List.take_of_length_le (l := ts.map (Value.int .i64)) (by simp)] at h2
    rw [Nat.mul_one]
    exact h2
  · have := kept_grown (grownBy_sortedI (w := w) (g := g) (n := q) (os := #[]) (ts ++ zs).toArray)
    rw [grow_nil] at this
    simpa using this
theorem own_block {w : World} {base g : Nat} {e : TypeId} {n c : Nat} {xs : List Value} (h : w.ownsRow base e 1 (.slice (some ⟨g, 0, none⟩) n c) n xs) : g < w.heap.size := by
  rcases h.2 with ⟨h0, _⟩ | ⟨g', cap', cur, hv, hg, hh, _⟩
  · cases h0
  · cases hv
    rcases Nat.lt_or_ge g w.heap.size with h1 | h1
    · exact h1
    · rw [Array.getElem?_eq_none h1] at hh; cases hh
end Go.Df
namespace Go.Proofs.YtooejoajojanjaaGreatDoor
open Go.RowKit Go.Df Go.Df.If Go.Sort
attribute [local go_sem ↓] Go.wp_at_zero Go.wp_at_succ
/-- slices.Sort at a row of one's own. -/
theorem sort_own {base : Nat} {B : Option Addr} {k c : Nat} {l : List Int} (w : World) (h : w.ownsRow base 3 1 (.slice B k c) k (l.map (Value.int .i64))) (hk : k ≤ 1000000) :
    Calls Tryz.prog 69 #[.slice B k c] w fun e w' => e = .returned (.tuple #[]) ∧ w'.ownsRow base 3 1 (.slice B k c) k ((l.mergeSort fun x y => decide (x ≤ y)).map (Value.int .i64)) ∧ Kept (Value.slice B k c).ownBlock.toList w w' := by
  have hl : l.length = k := by simpa using h.1
  rcases h.2 with ⟨hv, h0⟩ | ⟨g, cap, cur, hv, hg, hh, hn, hcap, hcs, htk⟩
  · cases hv
    refine (Any.slices_Sort_int_none layS none 0 w).mono ?_
    rintro e w' ⟨rfl, rfl⟩
    have : l = [] := List.length_eq_zero_iff.1 hl
    subst this
    exact ⟨rfl, by simpa using h, Kept.refl _ _⟩
  · cases hv
    subst hl
    have hgl := own_block h
    have hH : Holds (Value.int .i64) w g 0 l.toArray := holds_of_blockI hh (by simpa using htk)
    refine (Any.slices_Sort_int layS g 0 c l w hH hgl (by omega)).mono ?_
    rintro e w' ⟨rfl, n, os, rfl⟩
    refine ⟨rfl, ?_, ?_⟩
    · exact ownsRow_sortedI (ss := l) (List.length_mergeSort l) hg hh hn hcap hcs
    · have := kept_grown (grownBy_sortedI (w := w) (g := g) (n := n) (os := os) (l.mergeSort fun x y => decide (x ≤ y)).toArray)
      exact this
/-- slices.Compact at a row of one's own. -/
theorem compact_own {base : Nat} {B : Option Addr} {k c : Nat} {l : List Int} (w : World) (h : w.ownsRow base 3 1 (.slice B k c) k (l.map (Value.int .i64))) (hk : k ≤ 1000000) :
    Calls Tryz.prog 70 #[.slice B k c] w fun e w' => e = .returned (.slice B (Lib.compact l).length c) ∧ w'.ownsRow base 3 1 (.slice B (Lib.compact l).length c) (Lib.compact l).length ((Lib.compact l).map (Value.int .i64)) ∧ Kept (Value.slice B k c).ownBlock.toList w w' := by
  have hl : l.length = k := by simpa using h.1
  rcases h.2 with ⟨hv, h0⟩ | ⟨g, cap, cur, hv, hg, hh, hn, hcap, hcs, htk⟩
  · cases hv
    refine (Any.slices_Compact_int_empty layC none 0 w).mono ?_
    rintro e w' ⟨rfl, rfl⟩
    have : l = [] := List.length_eq_zero_iff.1 hl
    subst this
    exact ⟨rfl, by simpa [Lib.compact, Lib.compactUpTo] using h, Kept.refl _ _⟩
  · cases hv
    subst hl
    have hH : Holds (Value.int .i64) w g 0 l.toArray := holds_of_blockI hh (by simpa using htk)
    refine (Any.slices_Compact_int layC g 0 c l w hH (by omega) hn).mono ?_
    rintro e w' ⟨rfl, q, rfl⟩
    have hle : (Lib.compact l).length ≤ l.length := by unfold Lib.compact Lib.compactUpTo; rw [List.length_map]; exact Nat.le_trans (List.length_filter_le _ _) (by simp)
    obtain ⟨h1, h2⟩ := own_compact (ts := Lib.compact l) (zs := List.replicate (l.length - (Lib.compact l).length) 0) (q := q) (by rw [List.length_replicate]; omega) h
    exact ⟨rfl, h1, h2⟩
end Go.Proofs.YtooejoajojanjaaGreatDoor
namespace Go.Df
open Go.RowKit
namespace If
/-- Which facts hold, as a map says. -/
def mbF (l : List Int) (i : Nat) : Value → Lit := fun v => match v with | .int .i64 x => .bool (decide (x = 0 ∨ ∃ j, j < i ∧ gi l j = x)) | _ => .bool false
theorem mbF_succ {l : List Int} {i : Nat} {y : Int} (e : gi l i = y) : mbF l (i + 1) (.int .i64 y) = .bool true ∧ ∀ x, x ≠ .int .i64 y → mbF l (i + 1) x = mbF l i x := by
  constructor
  · unfold mbF
    simp only
    exact congrArg Lit.bool (decide_eq_true (Or.inr ⟨i, by omega, e⟩))
  · intro x hx
    unfold mbF
    split
    · rename_i z
      refine congrArg Lit.bool ?_
      rw [decide_eq_decide]
      constructor
      · rintro (h | ⟨j, hj, h⟩)
        · exact Or.inl h
        · rcases Nat.lt_or_ge j i with h9 | h9
          · exact Or.inr ⟨j, h9, h⟩
          · obtain rfl : j = i := by omega
            rw [e] at h
            subst h
            exact absurd rfl hx
      · rintro (h | ⟨j, hj, h⟩)
        · exact Or.inl h
        · exact Or.inr ⟨j, by omega, h⟩
    · rfl
theorem mbF_all {l : List Int} {n : Nat} (h : l.length = n) (x : Int) : mbF l n (.int .i64 x) = .bool (decide (x = 0 ∨ x ∈ l)) := by
  unfold mbF
  simp only
  refine congrArg Lit.bool ?_
  rw [decide_eq_decide]
  constructor
  · rintro (h1 | ⟨j, hj, h1⟩)
    · exact Or.inl h1
    · right; rw [← h1, gi_lt (by omega)]; exact List.getElem_mem _
  · rintro (h1 | h1)
    · exact Or.inl h1
    · obtain ⟨j, hj, e⟩ := List.getElem_of_mem h1
      exact Or.inr ⟨j, by omega, by rw [gi_lt hj]; exact e⟩
end If
end Go.Df
namespace Go.Proofs.YtooejoajojanjaaGreatDoor
open Go.RowKit Go.Df Go.Df.If
attribute [local go_sem ↓] Go.wp_at_zero Go.wp_at_succ
theorem mapIB : Tryz.prog.underlying 124 = some (.map 3 4) := by kernel_rfl
theorem run_makeMapH (w : World) (z : Int) : (Instr.makeMap 124 (some (.int .i64 z))).run Tryz.prog w = .ok (.map (some w.heap.size)) (w.alloc (.map #[] 0)) := by
  simp [Instr.makeMap, run_underlying mapIB, asInt, asIntOf, Result.andThen]
theorem pEltT : plainElem (H := Unit) Tryz.prog 4 (.bool true) = some (.lit (.bool true), []) := plainElem_bool (H := Unit) Tryz.undBool true
set_option maxRecDepth 100000 in
set_option maxHeartbeats 8000000 in
theorem apply_any (A B : Option Addr) (n c m d : Nat) (f : List Pr) (l : List Int) (w : World) (hf : Prs w A n f) (hB : Ints w B m l) (hn : n ≤ 10000) (hm : m ≤ 100000) (hwf : ∀ x ∈ l, (Lit.int .i64 x).wf = true) (hwp : ∀ q ∈ f, (Lit.int .i64 q.i).wf = true) :
    Calls Tryz.prog 37 #[.slice A n c, .slice B m d] w (GetF w (applyF f l)) := by
  obtain ⟨i1, hj, hy0, hy1, hy2⟩ := info_parts intf_info
  have HF := Lib.hid hf
  have HG := Lib.hid hB
  have HLF := Lib.hid hf.1
  have HLG := Lib.hid hB.1
  have HWF := Lib.hid hwf
  have HWP := Lib.hid hwp
  clear hf hB hwf hwp
  have hmm := run_makeMapH
  have HK0 := Lib.hid (Tryz.keyInt 0 (by decide))
  have HG1 := Lib.hid (show mbF l 0 (.int .i64 0) = .bool true from congrArg Lit.bool (decide_eq_true (Or.inl rfl)))
  have HG2 : Hid (∀ x, x ≠ Value.int .i64 0 → mbF l 0 x = .bool false) := Lib.hid (fun x hx => by
    unfold mbF
    split
    · rename_i z
      refine congrArg Lit.bool (decide_eq_false ?_)
      rintro (h | ⟨j, hj, -⟩)
      · subst h; exact hx rfl
      · omega
    · rfl)
  go_enter Tryz.func37, Tryz.ntmps37
  go_upto_region 2 with fail
  refine wp_named (fun V => ∃ p, w.heap.size = p ∧ MapV Tryz.prog 3 4 (.bool false) V p 0 (fun _ => .bool false) ∧ Kept [] w V) ⟨_, rfl, MapV.made _ _ _ _ _ _ rfl, (Kept.refl _ _).alloc _⟩ ?_
  rintro V ⟨p, ep, Mp, hkV⟩
  rw [ep]
  have hpw : w.heap.size ≤ p := by omega
  have MP := Lib.hid Mp
  clear hmm ep Mp
  go_upto_region 3 with (at_mapUpdate; refine wpList_store_map _ rfl _ _ _ 124 rfl 3 4 Tryz.lawInt mapIB (.bool false) p 0 _ rfl MP.out (by unfold maxLen; omega) (.int .i64 0) (.bool true) (.int .i64 0) _ rfl rfl HK0.out pEltT (mbF l 0) HG1.out (fun x hx => HG2.out x hx) ?_; intro w1 M1u hs1; have M1 := Lib.hid M1u; clear M1u)
  have hk1 : Kept [] w w1 := kept_fresh hkV hs1 (by simpa using hpw)
  clear MP hs1 hkV
  go_wp2_with fail
  go_loopw [18] (fun i wr => ∃ j : Nat, j ≤ m ∧ i = .int .i64 j ∧ Kept [] w wr ∧ Hid (MapV Tryz.prog 3 4 (.bool false) wr p (1 + j) (mbF l j))) (fun i _ => m - (intOf i).toNat)
  case atStart => exact ⟨0, Nat.zero_le _, rfl, hk1, M1⟩
  case round =>
  clear M1 hk1
  obtain ⟨j, hj', rfl, hkr, mp⟩ := hrel
  by_cases hlt : j < m
  · obtain ⟨b, o, rfl, hl, hc⟩ := HG.out.2 (by omega)
    have h1 := (hkr.cell b _ hl (by simp)).trans (hc j hlt)
    obtain ⟨y, en⟩ : ∃ y, gi l j = y := ⟨_, rfl⟩
    rw [en] at h1
    have hlr : b < wr.heap.size := Nat.lt_of_lt_of_le hl hkr.size
    have hj9 : (j : Int) < (m : Int) := by omega
    have HKY := Lib.hid (Tryz.keyInt y (by rw [← en, gi_lt (by rw [HLG.out]; exact hlt)]; exact HWF.out _ (List.getElem_mem _)))
    have HS1 := Lib.hid (mbF_succ en).1
    have HS2 := Lib.hid (mbF_succ en).2
    clear hc en
    go_wp2_with (at_mapUpdate; refine wpList_store_map _ rfl _ _ _ 124 rfl 3 4 Tryz.lawInt mapIB (.bool false) p (1 + j) _ rfl mp.out (by unfold maxLen; omega) (.int .i64 y) (.bool true) (.int .i64 y) _ rfl rfl HKY.out pEltT (mbF l (j + 1)) HS1.out HS2.out ?_; intro w2 M2u hs2; have M2 := Lib.hid M2u; clear M2u)
    exact ⟨⟨j + 1, by omega, by go_num, kept_fresh hkr hs2 (by simpa using hpw), M2⟩, by simp [intOf]; omega⟩
  obtain rfl : j = m := by omega
  have MP2 : Hid (MapV Tryz.prog 3 4 (.bool false) wr p (1 + j) (mbF l j)) := mp
  clear hlt hj'
  go_wp2_with fail
  go_loopw [8, 27] (fun s8 i wz => ∃ (i' : Nat) (Q : Option Addr) (k cQ : Nat), i' ≤ n ∧ i = .int .i64 i' ∧ s8 = .slice Q k cQ ∧ Kept [] wr wz ∧ (apI f l i').length = k ∧ k ≤ i' ∧ Hid (wz.ownsRow wr.heap.size 3 1 (.slice Q k cQ) k ((apI f l i').map (Value.int .i64)))) (fun _ i _ => n - (intOf i).toNat)
  case atStart => exact ⟨0, none, 0, 0, Nat.zero_le _, rfl, rfl, Kept.refl _ _, rfl, by omega, Lib.hid (World.ownsRow_nil _ _ _ _)⟩
  case round =>
  rename World => wz
  obtain ⟨i, Q, k, cQ, hi, rfl, rfl, hkz, hok, hki, own⟩ := hrel
  have hkwz : Kept [] w wz := keptTrans hkr hkz
  have hsz := hkz.size
  have HOK := Lib.hid hok
  have HX : Hid (∀ y ∈ (Value.slice Q k cQ).ownBlock.toList, wr.heap.size ≤ y) := (fun y hy => own_ge own.out (by simpa using hy))
  clear hok
  by_cases hlt : i < n
  case neg =>
    obtain rfl : i = n := by omega
    have HU : Hid (ascF (apI f l i) = applyF f l) := Lib.hid (by rw [apI_all (Nat.le_of_eq HLF.out)]; rfl)
    go_upto_region 16 with (go_at_call 69; refine (sort_own _ own.out (by omega)).mono ?_; rintro e w2 ⟨rfl, hown2, hk2⟩)
    have OW2 := Lib.hid hown2
    clear hown2
    go_wp2_with (go_at_call 70; refine (compact_own _ OW2.out (by omega)).mono ?_; rintro e w3 ⟨rfl, hown3, hk3⟩)
    go_ret
    have e9 : Lib.compact ((apI f l i).mergeSort fun x y => decide (x ≤ y)) = applyF f l := (sorted_compact _).trans HU.out
    obtain ⟨h1, h2⟩ := Ints.ofOwn hown3
    refine ⟨Q, _, cQ, rfl, by rw [← e9]; exact h1, h2, ?_⟩
    have h3 := hkz.next hk2 (fun y hy => Or.inr (HX.out y hy))
    exact (keptTrans hkr (h3.next hk3 (fun y hy => Or.inr (HX.out y hy)))).toBelow
  obtain ⟨b, o, rfl, hl, hc⟩ := HF.out.2 (by omega)
  have h1 := (hkwz.cell b _ hl (by simp)).trans (hc i hlt).1
  have h2 := (hkwz.cell b _ hl (by simp)).trans (hc i hlt).2
  obtain ⟨yi, yo, en⟩ : ∃ yi yo, gp f i = ⟨yi, yo⟩ := ⟨_, _, rfl⟩
  rw [en] at h1 h2
  have hlr : b < wz.heap.size := Nat.lt_of_lt_of_le hl hkwz.size
  have hi9 : (i : Int) < (n : Int) := by omega
  have HS : Hid (apI f l (i + 1) = apI f l i ++ (if yo ≠ 0 ∧ (yi = 0 ∨ yi ∈ l) then [yo] else [])) := Lib.hid (by rw [apI_succ (by rw [HLF.out]; exact hlt), en])
  have HKY := Lib.hid (Tryz.keyInt yi (by have := HWP.out _ (gp_mem (l := f) (i := i) (by rw [HLF.out]; exact hlt)); rw [en] at this; exact this))
  clear hc en
  go_upto_region 12 with fail
  refine wp_named (fun X => ∃ g, wz.heap.size = g ∧ Blk X g [.int .i64 yi, .int .i64 yo] ∧ Kept [] wz X) ⟨_, rfl, Blk.new _ _ _ _ rfl, (Kept.refl _ _).alloc _⟩ ?_
  rintro X ⟨g, eg, Bg, hkX⟩
  rw [eg]
  have ⟨LG, CG, FG⟩ := Bg
  have hkrX : Kept [] wr X := keptTrans hkz hkX
  have OWX := Lib.hid (own_keptT (X := []) own.out hkX (by simp))
  have MX := Lib.hid (MP2.out.kept hkrX (by simp))
  have hsX := hkrX.size
  clear eg h1 h2 hlr own
  have HAP := Lib.hid (ints_snoc (apI f l i) yo)
  by_cases q0 : yo = 0
  · have z0 : (yo != 0) = false := by simp [q0]
    have HS2 : Hid (apI f l (i + 1) = apI f l i) := Lib.hid (by rw [HS.out, if_neg (fun h => h.1 q0), List.append_nil])
    clear q0
    go_wp2_with fail
    exact ⟨⟨i + 1, Q, k, cQ, by omega, by go_num, rfl, hkrX, by rw [HS2.out, HOK.out], by omega, by rw [HS2.out]; exact OWX⟩, by simp [intOf]; omega⟩
  have z0 : (yo != 0) = true := by simpa using q0
  obtain ⟨v, hv⟩ : ∃ v, decide (yi = 0 ∨ yi ∈ l) = v := ⟨_, rfl⟩
  have HV := Lib.hid (show mbF l j (.int .i64 yi) = .bool v by rw [mbF_all HLG.out, hv])
  have HV2 := Lib.hid hv
  clear hv
  cases v with
  | true =>
    have HS2 : Hid (apI f l (i + 1) = apI f l i ++ [yo]) := Lib.hid (by rw [HS.out, if_pos ⟨q0, of_decide_eq_true HV2.out⟩])
    clear q0
    go_wp2_with (first
      | (at_lookup; refine wpList_look_boolg _ rfl _ _ 124 rfl 3 4 Tryz.lawInt mapIB Tryz.undBool (Tryz.zeroBool _) p (1 + j) _ rfl MX.out (.int .i64 yi) _ rfl HKY.out true HV.out ?_)
      | (at_builtin; refine wpList_append_rd _ rfl _ _ 31 rfl wr.heap.size 3 i1 (.int .i64 0) 1 8 Tryz.underlying31 hj hy0 hy1 hy2 rfl (by decide) (.slice Q k cQ) k _ rfl (own_keptT (X := []) OWX.out ((Kept.refl _ _).alloc _) (by simp)) (some ⟨X.heap.size, 0, none⟩) 1 1 [.int .i64 yo] rfl (Rd.new1 _ _ _ _ rfl) (fun h => by cases h) (by intro u hu; simp at hu; subst hu; rfl) (k + 1) rfl _ HAP.out (by unfold maxLen; omega) (by omega) (by simp; omega) ?_; intro A9 c9 w9 hown4 hk4 hat4; have hk5 := Lib.hid ((hkrX.alloc (.cells #[.int .i64 yo] 3)).next hk4 (fun y hy => Or.inr (HX.out y hy))); have HO4 := Lib.hid hown4; clear hown4 hk4 hat4))
    exact ⟨⟨i + 1, A9, k + 1, c9, by omega, by go_num, rfl, hk5.out, by rw [HS2.out, List.length_append, HOK.out]; rfl, by omega, by rw [HS2.out]; exact HO4⟩, by simp [intOf]; omega⟩
  | false =>
    have HS2 : Hid (apI f l (i + 1) = apI f l i) := Lib.hid (by rw [HS.out, if_neg (fun h => of_decide_eq_false HV2.out h.2), List.append_nil])
    clear q0
    go_wp2_with (at_lookup; refine wpList_look_boolg _ rfl _ _ 124 rfl 3 4 Tryz.lawInt mapIB Tryz.undBool (Tryz.zeroBool _) p (1 + j) _ rfl MX.out (.int .i64 yi) _ rfl HKY.out false HV.out ?_)
    exact ⟨⟨i + 1, Q, k, cQ, by omega, by go_num, rfl, hkrX, by rw [HS2.out, HOK.out], by omega, by rw [HS2.out]; exact OWX⟩, by simp [intOf]; omega⟩
end Go.Proofs.YtooejoajojanjaaGreatDoor
namespace Go.Df
open Go.RowKit Go.ChangeShapes Go.WideShapes
theorem mapM_later {α β : Type} {f g : α → Option β} : ∀ {l : List α} {r : List β}, (∀ a ∈ l, ∀ b, f a = some b → g a = some b) → l.mapM f = some r → l.mapM g = some r
  | [], r, _, h => h
  | a :: l, r, hfg, h => by
    rw [List.mapM_cons] at h ⊢
    cases ha : f a with
    | none => simp [ha] at h
    | some b =>
      cases hl : l.mapM f with
      | none => simp [ha, hl] at h
      | some bs =>
        rw [hfg a (by simp) b ha, mapM_later (fun x hx => hfg x (by simp [hx])) hl]
        simpa [ha, hl] using h
theorem block_add (a : Addr) (n : Nat) : (a.add n).block = a.block := by unfold Addr.add; split <;> rfl
theorem cell_lt {w : World} {p : Addr} {v : Value} (h : w.cell? p = some v) : p.block < w.heap.size := by
  rcases Nat.lt_or_ge p.block w.heap.size with h1 | h1
  · exact h1
  · simp [World.cell?, Array.getElem?_eq_none h1] at h
section
variable {H : Type} {enc : TypeId × Value → H} {P : Program} {w w' : World} {base : Nat} {held : Bool}
theorem cells_later (hb : ∀ b, b < w.heap.size → w'.heap[b]? = w.heap[b]?) {a : Addr} {n : Nat} {cs : List Value} (h : w.cells? base a n = some cs) : w'.cells? base a n = some cs := by
  unfold World.cells? at h ⊢
  split at h
  · rename_i h1
    rw [if_pos h1]
    refine mapM_later (fun i _ v hv => ?_) h
    rw [World.cell?_of_block (w := w) (hb _ (cell_lt hv))]; exact hv
  · cases h
theorem cells_lt {a : Addr} {n : Nat} {cs : List Value} (h : w.cells? base a n = some cs) (hn : 0 < n) : a.block < w.heap.size := by
  unfold World.cells? at h
  split at h
  · obtain ⟨m, rfl⟩ : ∃ m, n = m + 1 := ⟨n - 1, by omega⟩
    rw [List.range_succ_eq_map, List.mapM_cons] at h
    cases hv : w.cell? (a.add 0) with
    | none => simp [hv] at h
    | some v => have := cell_lt hv; rwa [block_add] at this
  · cases h
theorem bind_map {α β γ : Type} {o : Option α} {g : α → Option β} {f : β → γ} {x : γ} (h : (o.bind g).map f = some x) : ∃ c y, o = some c ∧ g c = some y ∧ f y = x := by
  cases o with
  | none => simp at h
  | some c =>
    cases hg : g c with
    | none => simp [hg] at h
    | some y => exact ⟨c, y, rfl, hg, by simpa [hg] using h⟩
theorem map_some {β γ : Type} {o : Option β} {f : β → γ} {x : γ} (h : o.map f = some x) : ∃ y, o = some y ∧ f y = x := by
  cases o with
  | none => simp at h
  | some y => exact ⟨y, rfl, by simpa using h⟩
/-- A type whose parts are among the first N types; no slice of elements without cells. -/
def closedB (P : Program) (N : Nat) (t : TypeId) : Bool :=
  match P.underlying t with
  | some (.slice e) => decide (e < N) && decide (0 < P.cellsOf e)
  | some (.pointer e) => decide (e < N)
  | some (.struct fs) => fs.toList.all (fun f => decide (f.type < N))
  | some (.array _ e) => decide (e < N)
  | some (.map _ e) => decide (e < N)
  | _ => true
set_option maxHeartbeats 1000000 in
/-- What reads as a datum reads so in a later world. -/
theorem trod_later {N : Nat} (hz : (List.range N).all (closedB P N) = true) (hb : ∀ b, b < w.heap.size → w'.heap[b]? = w.heap[b]?) :
    ∀ (fuel : Nat) (t : TypeId) (cs : List Value) (x : DataW H × List MemPlace), t < N → DataW.trod enc P w base (fun _ => true) true fuel t cs = some x → DataW.trod enc P w' base (fun b => decide (b < w.heap.size)) true fuel t cs = some x := by
  rw [List.all_eq_true] at hz
  intro fuel
  induction fuel with
  | zero => intro t cs x _ h; simp [DataW.trod] at h
  | succ fuel ih =>
    intro t cs x htN h
    have hcl := hz t (by simpa using htN)
    unfold closedB at hcl
    unfold DataW.trod at h ⊢
    split at h
    all_goals (try exact h)
    · rename_i e a heq
      rw [heq] at hcl
      obtain ⟨c, y, hc, hy, rfl⟩ := bind_map h
      rw [cells_later hb hc]
      simp only [Option.bind_some]
      rw [ih _ _ _ (by simpa using hcl) hy]; rfl
    · rename_i e a len cap heq
      rw [heq] at hcl
      simp only [Bool.and_eq_true, decide_eq_true_eq] at hcl
      have he := hcl.2
      dsimp only at h ⊢
      by_cases hc : base ≤ a.block ∧ len ≤ cap ∧ cap ≤ maxLen
      · rw [if_pos hc] at h ⊢
        have hel : ∀ i y, (w.cells? base (a.add (i * P.cellsOf e)) (P.cellsOf e)).bind (DataW.trod enc P w base (fun _ => true) true fuel e) = some y → (w'.cells? base (a.add (i * P.cellsOf e)) (P.cellsOf e)).bind (DataW.trod enc P w' base (fun b => decide (b < w.heap.size)) true fuel e) = some y ∧ a.block < w.heap.size := by
          intro i y hy
          cases hcs : w.cells? base (a.add (i * P.cellsOf e)) (P.cellsOf e) with
          | none => simp [hcs] at hy
          | some c =>
            rw [hcs] at hy
            rw [cells_later hb hcs]
            refine ⟨ih _ _ _ hcl.1 hy, ?_⟩
            have := cells_lt hcs he
            rwa [block_add] at this
        cases h1 : (List.range len).mapM (fun i => (w.cells? base (a.add (i * P.cellsOf e)) (P.cellsOf e)).bind (DataW.trod enc P w base (fun _ => true) true fuel e)) with
        | none => rw [h1] at h; simp at h
        | some elems =>
          rw [h1] at h
          rw [mapM_later (fun i _ y hy => (hel i y hy).1) h1]
          simp only [Option.bind_some, if_true] at h ⊢
          obtain ⟨rest, hr, rfl⟩ := map_some h
          have hr' : (if decide (a.block < w.heap.size) = true then (List.range (cap - len)).mapM (fun j => (w'.cells? base (a.add ((len + j) * P.cellsOf e)) (P.cellsOf e)).bind (DataW.trod enc P w' base (fun b => decide (b < w.heap.size)) true fuel e)) else some []) = some rest := by
            by_cases hlt : a.block < w.heap.size
            · rw [if_pos (by simpa using hlt)]
              exact mapM_later (fun j _ y hy => (hel (len + j) y hy).1) hr
            · rw [if_neg (by simpa using hlt)]
              rcases Nat.eq_zero_or_pos (cap - len) with h0 | h0
              · rw [h0] at hr; simpa using hr
              · exfalso
                obtain ⟨m, hm⟩ : ∃ m, cap - len = m + 1 := ⟨cap - len - 1, by omega⟩
                rw [hm, List.range_succ_eq_map, List.mapM_cons] at hr
                cases hv : (w.cells? base (a.add ((len + 0) * P.cellsOf e)) (P.cellsOf e)).bind (DataW.trod enc P w base (fun _ => true) true fuel e) with
                | none => simp only [hv] at hr; simp at hr
                | some y => exact hlt (hel (len + 0) y hv).2
          rw [hr']; rfl
      · rw [if_neg hc] at h; cases h
    · rename_i fs heq
      split at h
      · rename_i hc
        rw [if_pos hc]
        obtain ⟨ys, hy, rfl⟩ := map_some h
        rw [heq] at hcl
        rw [mapM_later (fun f hf y hy => ih _ _ _ (by have := List.all_eq_true.1 hcl f hf; simpa using this) hy) hy]; rfl
      · cases h
    · rename_i n e heq
      split at h
      · rename_i hc
        rw [if_pos hc]
        obtain ⟨ys, hy, rfl⟩ := map_some h
        rw [heq] at hcl
        rw [mapM_later (fun f _ y hy => ih _ _ _ (by simpa using hcl) hy) hy]; rfl
      · cases h
    · rename_i k e b heq
      rw [heq] at hcl
      cases hm : w.heap[b]? with
      | none => simp [hm] at h
      | some o =>
        rw [hb b (by
          rcases Nat.lt_or_ge b w.heap.size with h1 | h1
          · exact h1
          · rw [Array.getElem?_eq_none h1] at hm; cases hm), hm]
        rw [hm] at h
        cases o with
        | map es clock =>
          dsimp only at h ⊢
          split at h
          · rename_i hc
            rw [if_pos hc]
            cases h1 : es.toList.mapM (fun x => (keyOf P k x.key).bind fun key => if x.val.formed P e then (DataW.trod enc P w base (fun _ => true) true fuel e x.val.cells.toList).map fun y => ((key, y.1), y.2) else none) with
            | none => rw [h1] at h; simp at h
            | some entries =>
              rw [h1] at h
              rw [mapM_later (fun x _ y hy => ?_) h1]
              · exact h
              · cases hk : keyOf P k x.key with
                | none => simp [hk] at hy
                | some key =>
                  rw [hk] at hy
                  simp only [Option.bind_some] at hy ⊢
                  split at hy
                  · rename_i hf
                    rw [if_pos hf]
                    obtain ⟨z, hz', rfl⟩ := map_some hy
                    rw [ih _ _ _ (by simpa using hcl) hz']; rfl
                  · cases hy
          · cases h
        | _ => simp at h
theorem trodAll_later {N : Nat} (hz : (List.range N).all (closedB P N) = true) (hb : ∀ b, b < w.heap.size → w'.heap[b]? = w.heap[b]?) :
    ∀ {ts : List TypeId} {vs : List Value} {ds : List (DataW H)} {ps : List MemPlace}, (∀ t ∈ ts, t < N) → DataW.TrodAll enc P w base (fun _ => true) true ts vs ds ps → DataW.TrodAll enc P w' base (fun b => decide (b < w.heap.size)) true ts vs ds ps
  | [], [], [], _, _, h => h
  | _ :: _, _ :: _, _ :: _, _, ht, ⟨p, q, ⟨fuel, h1⟩, h2, h3⟩ => ⟨p, q, ⟨fuel, trod_later hz hb fuel _ _ _ (ht _ (by simp)) h1⟩, trodAll_later hz hb (fun t h => ht t (by simp [h])) h2, h3⟩
/-- The post of a law that returned true and left all that was there. -/
theorem post_true {f : Func} {s : ChangeSpec} {fresh handsOn : Bool} {W W' : World} {args : Array Value} {ds gs : List (DataW H)} {before : List MemPlace} {tb : TypeId}
    {N : Nat} (hz : (List.range N).all (closedB P N) = true) (hpN : f.params.toList.all (fun t => decide (t < N)) = true) (htb : P.underlying tb = some .bool) (hrt : f.resultTypes = #[tb]) (hv : s.vars = [])
    (hs : s.fn H ds = { results := [.lit (.bool true)], args := ds })
    (hW : DataW.Whole enc P f.params.toList s.vars false W args.toList ds gs before) (hb : Below W.heap.size W W') : s.post enc P f false fresh handsOn false W args (.bool true) W' := by
  have hW' := hW
  obtain ⟨p, q, hA, hV, hp, _, _⟩ := hW
  rw [hv] at hV
  obtain ⟨rfl, rfl⟩ := trodVars_none hV
  refine ⟨ds, [], before, [], p, [], hW', ?_, ?_, ?_, hb.frame _, fun h => by cases h⟩
  · rw [hrt, List.append_nil, hs]
    exact trodAll_mk1 (shut_bool htb true)
  · rw [List.append_nil, hs]
    exact trodAll_later hz (fun b hlt => hb.block b hlt) (fun t ht => by have := List.all_eq_true.1 hpN t ht; simpa using this) hA
  · rw [hv, List.append_nil, hs]
    rfl
/-- A slice of numbers that came in. -/
theorem open_SIn {t e : TypeId} {fuel : Nat} {v : Value} {x : DataW H × List MemPlace} (ht : P.underlying t = some (.slice e)) (he : P.underlying e = some (.int .i64)) (hC : P.cellsOf e = 1)
    (h : DataW.trod enc P w base (fun _ => true) held fuel t [v] = some x) : ∃ A n c xs, v = .slice A n c ∧ SIn w A n c xs ∧ Fit xs := by
  rcases Go.Deep.open_slice ht h with ⟨h0, _⟩ | ⟨a, len, cap, m, n, D, Pl, hcs, hbb, hl, hm, hmm, hx, hi⟩
  · injection h0 with h0
    exact ⟨none, 0, 0, [], h0, SIn.nil w, fun x hx => by cases hx⟩
  · injection hcs with hcs
    subst hcs
    have hread : ∀ i, i < len → ∃ k : Int, w.cell? (a.add i) = some (.int .i64 k) ∧ -9223372036854775808 ≤ k ∧ k ≤ 9223372036854775807 := by
      intro i hil
      obtain ⟨cs', hc, ht'⟩ := hi i (by rw [hmm]; simp; omega)
      rw [hC] at hc
      obtain ⟨k, hk, _, wk⟩ := DataW.trod_int he ht'
      subst hk
      have hbd := bounds_i64 wk
      refine ⟨k, ?_, by omega, by omega⟩
      unfold World.cells? at hc
      split at hc
      · have e1 : (a.add (i * 1)).add 0 = a.add i := by simp [Addr.add]
        rw [show List.range 1 = [0] from rfl, List.mapM_cons, e1] at hc
        cases hv : w.cell? (a.add i) with
        | none => rw [hv] at hc; simp at hc
        | some u =>
          rw [hv] at hc
          simp at hc
          rw [hc]
      · cases hc
    have hex : ∃ f : Nat → Int, ∀ i, i < len → w.cell? (a.add i) = some (.int .i64 (f i)) ∧ -9223372036854775808 ≤ f i ∧ f i ≤ 9223372036854775807 :=
      ⟨fun i => if hil : i < len then (hread i hil).choose else 0, fun i hil => by simp only [dif_pos hil]; exact (hread i hil).choose_spec⟩
    obtain ⟨f, hf⟩ := hex
    refine ⟨some a, len, cap, (List.range len).map f, rfl, ⟨⟨by simp, fun hp => ?_⟩, hl, by unfold maxLen at hm; omega, fun h => by cases h⟩, ?_⟩
    · obtain ⟨b, o, sp⟩ := a
      have h0 := (hf 0 hp).1
      have hsp : sp = none := by
        cases sp with
        | none => rfl
        | some s =>
          exfalso
          simp only [World.cell?, Addr.add] at h0
          split at h0 <;> simp at h0
      subst hsp
      refine ⟨b, o, rfl, cell_lt (p := ⟨b, o, none⟩) (by have h9 := h0; rw [add_lit] at h9; exact h9), fun i hil => ?_⟩
      rw [← add_lit, (hf i hil).1, gi_lt (by simpa using hil)]
      simp
    · intro x hx
      simp at hx
      obtain ⟨i, hil, rfl⟩ := hx
      exact (hf i hil).2
end
end Go.Df
namespace Go.Df
open Go.RowKit
namespace If
def gbl (l : List Bool) (i : Nat) : Bool := l.getD i false
def gil (l : List (List Int)) (i : Nat) : List Int := l.getD i []
/-- A slice of truths; of slices of numbers. -/
def Bls (w : World) (A : Option Addr) (n : Nat) (l : List Bool) : Prop :=
  l.length = n ∧ (0 < n → ∃ b o, A = some ⟨b, o, none⟩ ∧ b < w.heap.size ∧ ∀ i, i < n → w.cell? ⟨b, o + i, none⟩ = some (.bool (gbl l i)))
theorem Bls.later {w w' : World} {A : Option Addr} {n : Nat} {l : List Bool} (h : Bls w A n l) (hb : Below w.heap.size w w') : Bls w' A n l :=
  ⟨h.1, fun hn => by
    obtain ⟨b, o, e, hl, hc⟩ := h.2 hn
    exact ⟨b, o, e, Nat.lt_of_lt_of_le hl hb.size, fun i hi => (hb.cell (p := ⟨b, _, none⟩) hl).trans (hc i hi)⟩⟩
def IntsR (w : World) (A : Option Addr) (n : Nat) (ls : List (List Int)) : Prop :=
  ls.length = n ∧ (0 < n → ∃ b o, A = some ⟨b, o, none⟩ ∧ b < w.heap.size ∧ ∀ i, i < n → ∃ Ai ni ci, w.cell? ⟨b, o + i, none⟩ = some (.slice Ai ni ci) ∧ Ints w Ai ni (gil ls i) ∧ ni ≤ 9223372036854775807)
theorem IntsR.later {w w' : World} {A : Option Addr} {n : Nat} {ls : List (List Int)} (h : IntsR w A n ls) (hb : Below w.heap.size w w') : IntsR w' A n ls :=
  ⟨h.1, fun hn => by
    obtain ⟨b, o, e, hl, hc⟩ := h.2 hn
    refine ⟨b, o, e, Nat.lt_of_lt_of_le hl hb.size, fun i hi => ?_⟩
    obtain ⟨Ai, ni, ci, h1, h2, h3⟩ := hc i hi
    exact ⟨Ai, ni, ci, (hb.cell (p := ⟨b, _, none⟩) hl).trans h1, h2.later hb, h3⟩⟩
/-- Does a fact hold at a node of a solution? -/
def holdsS (re : List Bool) (fs : List (List Int)) (node fact : Int) : Bool :=
  if node < 0 then false else if fact = 0 then decide (node.toNat < re.length) && gbl re node.toNat else decide (node.toNat < fs.length) && decide (fact ∈ gil fs node.toNat)
theorem mem_upto {l : List Int} {x : Int} {k : Nat} (hk : k < l.length) (e : gi l k = x) : x ∈ l := by
  rw [gi_lt hk] at e
  exact e ▸ List.getElem_mem hk
theorem not_mem_upto {l : List Int} {x : Int} (h : ∀ j, j < l.length → gi l j ≠ x) : ¬ x ∈ l := by
  intro hm
  obtain ⟨j, hj, e⟩ := List.getElem_of_mem hm
  exact h j hj ((gi_lt hj).trans e)
end If
end Go.Df
namespace Go.Proofs.YtooejoajojanjaaGreatDoor
open Go.RowKit Go.Df Go.Df.If
attribute [local go_sem ↓] Go.wp_at_zero Go.wp_at_succ
set_option maxHeartbeats 1000000 in
theorem rhas_any (A : Option Addr) (n c : Nat) (l : List Int) (x : Int) (w : World) (hr : Ints w A n l) (hn : n ≤ 9223372036854775807) :
    Calls Tryz.prog 66 #[.slice A n c, .int .i64 x] w fun e w' => e = .returned (.bool (decide (x ∈ l))) ∧ w = w' := by
  have HR := Lib.hid hr
  have HL := Lib.hid hr.1
  clear hr
  go_enter Tryz.func66, Tryz.ntmps66
  go_wp2
  go_loop [5] (fun i => ∃ k : Nat, k ≤ n ∧ i = .int .i64 k ∧ Hid (∀ j, j < k → gi l j ≠ x)) (fun i => n - (intOf i).toNat)
  case atStart => exact ⟨0, Nat.zero_le _, rfl, Lib.hid (fun j hj => absurd hj (by omega))⟩
  case round =>
    obtain ⟨k, hk, rfl, hj⟩ := hrel
    by_cases hlt : k < n
    · obtain ⟨b, o, rfl, hl, hc⟩ := HR.out.2 (by omega)
      have hcell := hc k hlt
      have hk1 : (k : Int) < (n : Int) := by omega
      obtain ⟨v, hv⟩ : ∃ v, gi l k = v := ⟨_, rfl⟩
      rw [hv] at hcell
      have HV := Lib.hid hv
      clear hc hv
      by_cases e : v = x
      · have e1 : (v == x) = true := by simpa using e
        have HM : Hid (x ∈ l) := Lib.hid (mem_upto (by rw [HL.out]; exact hlt) (HV.out.trans e))
        clear e
        go_wp2
        go_ret
        exact ⟨ret_bool (decide_eq_true HM.out).symm, rfl⟩
      · have e1 : (v == x) = false := by simpa using e
        have HJ : Hid (∀ j, j < k + 1 → gi l j ≠ x) := fun j h1 => by
          rcases Nat.lt_or_ge j k with h2 | h2
          · exact hj.out j h2
          · obtain rfl : j = k := by omega
            rw [HV.out]; exact e
        clear e
        go_wp2
        go_round
        case rel => exact ⟨k + 1, by omega, by go_num, HJ⟩
        case measure => simp [intOf]; omega
    · have HM : Hid (¬ x ∈ l) := Lib.hid (not_mem_upto (fun j h1 => hj.out j (by rw [HL.out] at h1; omega)))
      go_wp2
      go_ret
      exact ⟨ret_bool (decide_eq_false HM.out).symm, rfl⟩
set_option maxRecDepth 100000 in
set_option maxHeartbeats 4000000 in
theorem rapply_any (A B : Option Addr) (n c m d : Nat) (f : List Pr) (l : List Int) (w : World) (hf : Prs w A n f) (hB : Ints w B m l) (hn : n ≤ 10000) (hm : m ≤ 100000) :
    Calls Tryz.prog 38 #[.slice A n c, .slice B m d] w (GetF w (applyF f l)) := by
  have HF := Lib.hid hf
  have HG := Lib.hid hB
  have HLF := Lib.hid hf.1
  clear hf hB
  go_enter Tryz.func38, Tryz.ntmps38
  go_wp2_with fail
  go_loopw [5, 6] (fun s5 s6 wr => ∃ (i : Nat) (Q : Option Addr) (k cQ : Nat), i ≤ n ∧ s6 = .int .i64 i ∧ s5 = .slice Q k cQ ∧ Kept [] w wr ∧ Hid (Ints wr Q k (ascF (apI f l i))) ∧ k ≤ cQ ∧ k ≤ i) (fun _ s6 _ => n - (intOf s6).toNat)
  case atStart => exact ⟨0, none, 0, 0, Nat.zero_le _, rfl, rfl, Kept.refl _ _, Lib.hid (Ints.empty _ _), by omega, by omega⟩
  case round =>
  obtain ⟨i, Q, k, cQ, hi, rfl, rfl, hkr, HQ, hkc, hki⟩ := hrel
  by_cases hlt : i < n
  case neg =>
    obtain rfl : i = n := by omega
    have HU : Hid (ascF (apI f l i) = applyF f l) := Lib.hid (by rw [apI_all (Nat.le_of_eq HLF.out)]; rfl)
    go_wp2_with fail
    go_ret
    exact ⟨Q, k, cQ, rfl, by rw [← HU.out]; exact HQ.out, hkc, hkr.toBelow⟩
  obtain ⟨b, o, rfl, hl, hc⟩ := HF.out.2 (by omega)
  have h1 := (hkr.cell b _ hl (by simp)).trans (hc i hlt).1
  have h2 := (hkr.cell b _ hl (by simp)).trans (hc i hlt).2
  obtain ⟨yi, yo, en⟩ : ∃ yi yo, gp f i = ⟨yi, yo⟩ := ⟨_, _, rfl⟩
  rw [en] at h1 h2
  have hlr : b < wr.heap.size := Nat.lt_of_lt_of_le hl hkr.size
  have hi9 : (i : Int) < (n : Int) := by omega
  have HS : Hid (apI f l (i + 1) = apI f l i ++ (if yo ≠ 0 ∧ (yi = 0 ∨ yi ∈ l) then [yo] else [])) := Lib.hid (by rw [apI_succ (by rw [HLF.out]; exact hlt), en])
  clear hc en
  by_cases q0 : yo = 0
  · have z0 : (yo != 0) = false := by simp [q0]
    have HS2 : Hid (apI f l (i + 1) = apI f l i) := Lib.hid (by rw [HS.out, if_neg (fun h => h.1 q0), List.append_nil])
    clear q0
    go_wp2_with fail
    exact ⟨⟨i + 1, Q, k, cQ, by omega, by go_num, rfl, hkr, Lib.hid (by rw [HS2.out]; exact HQ.out), hkc, by omega⟩, by simp [intOf]; omega⟩
  have z0 : (yo != 0) = true := by simpa using q0
  by_cases q1 : yi = 0
  · have z1 : (yi == 0) = true := by simp [q1]
    have HS2 : Hid (ascF (apI f l (i + 1)) = withF (ascF (apI f l i)) yo) := Lib.hid (by rw [HS.out, if_pos ⟨q0, Or.inl q1⟩]; unfold ascF; rw [List.foldl_append]; rfl)
    have HLN : Hid ((apI f l (i + 1)).length ≤ i + 1) := Lib.hid (apI_len f l (i + 1))
    clear q0 q1
    go_wp2_with (go_at_call 71; refine (rwithf_any Q k cQ _ yo _ HQ.out (by omega) hkc).mono ?_; rintro e w3 ⟨Q3, k3, c3, rfl, hq3, hk3, hb3⟩)
    have hlen : k3 ≤ i + 1 := by
      have h7 := ascF_len (apI f l (i + 1))
      rw [HS2.out, hq3.1] at h7
      exact Nat.le_trans h7 HLN.out
    exact ⟨⟨i + 1, Q3, k3, c3, by omega, by go_num, rfl, hkr.call hb3, Lib.hid (by rw [HS2.out]; exact hq3), hk3, hlen⟩, by simp [intOf]; omega⟩
  have z1 : (yi == 0) = false := by simpa using q1
  by_cases q2 : yi ∈ l
  · have z2 : decide (yi ∈ l) = true := decide_eq_true q2
    have HZ := Lib.hid z2
    have HS2 : Hid (ascF (apI f l (i + 1)) = withF (ascF (apI f l i)) yo) := Lib.hid (by rw [HS.out, if_pos ⟨q0, Or.inr q2⟩]; unfold ascF; rw [List.foldl_append]; rfl)
    have HLN : Hid ((apI f l (i + 1)).length ≤ i + 1) := Lib.hid (apI_len f l (i + 1))
    clear q0 q1 q2 z2
    go_wp2_with (first
      | (go_at_call 66; refine (rhas_any B m d l yi _ (HG.out.kept hkr) (by omega)).mono ?_; rw [HZ.out]; rintro e w3 ⟨rfl, rfl⟩)
      | (go_at_call 71; refine (rwithf_any Q k cQ _ yo _ HQ.out (by omega) hkc).mono ?_; rintro e w3 ⟨Q3, k3, c3, rfl, hq3, hk3, hb3⟩))
    have hlen : k3 ≤ i + 1 := by
      have h7 := ascF_len (apI f l (i + 1))
      rw [HS2.out, hq3.1] at h7
      exact Nat.le_trans h7 HLN.out
    exact ⟨⟨i + 1, Q3, k3, c3, by omega, by go_num, rfl, hkr.call hb3, Lib.hid (by rw [HS2.out]; exact hq3), hk3, hlen⟩, by simp [intOf]; omega⟩
  · have z2 : decide (yi ∈ l) = false := decide_eq_false q2
    have HZ := Lib.hid z2
    have HS2 : Hid (apI f l (i + 1) = apI f l i) := Lib.hid (by rw [HS.out, if_neg (fun h => h.2.elim q1 q2), List.append_nil])
    clear q0 q1 q2 z2
    go_wp2_with (go_at_call 66; refine (rhas_any B m d l yi _ (HG.out.kept hkr) (by omega)).mono ?_; rw [HZ.out]; rintro e w3 ⟨rfl, rfl⟩)
    exact ⟨⟨i + 1, Q, k, cQ, by omega, by go_num, rfl, hkr, Lib.hid (by rw [HS2.out]; exact HQ.out), hkc, by omega⟩, by simp [intOf]; omega⟩
end Go.Proofs.YtooejoajojanjaaGreatDoor
