/- Texts: Rd Re Pi Rg Rf Pk Pl Rh. -/
import Derived.Test.YtooejoajojanjaaGreatDoorXSf16
import Derived.Test.YtooejoajojanjaaGreatDoorXSf07
import Derived.Sort.OwnSortedInts
import Derived.Shelf.Slices.In.SortNone
import Derived.Test.YtooejoajojanjaaGreatDoorXSf12
import Derived.Test.YtooejoajojanjaaGreatDoorXSf14
import Derived.Test.YtooejoajojanjaaGreatDoorXSf05
import Derived.Test.YtooejoajojanjaaGreatDoorXSf13
namespace Go.Df
open Go.RowKit Go.Sort Go.Proofs
theorem grow_nil (w : World) : grow w #[] = w := by simp [grow]
theorem own_compact {w : World} {base g cap q : Nat} {e : TypeId} {ss ts zs : List Int} (hl : ts.length + zs.length = ss.length) (h : w.ownsRow base e 1 (.slice (some ⟨g, 0, none⟩) ss.length cap) ss.length (ss.map (Value.int .i64))) :
   (putRow (Value.int .i64) (Sort.ahead w q) g 0 (ts ++ zs).toArray).ownsRow base e 1 (.slice (some ⟨g, 0, none⟩) ts.length cap) ts.length (ts.map (Value.int .i64)) ∧ Kept [g] w (putRow (Value.int .i64) (Sort.ahead w q) g 0 (ts ++ zs).toArray) := by
 rcases h.2 with ⟨h0, _⟩ | ⟨g', cap', cur, hv, hg, hh, hn, hcap, hcs, htk⟩
 · cases h0
 cases hv
 refine ⟨⟨by simp, .inr ⟨g, cap, putCells (Value.int .i64) 0 (ts ++ zs).toArray cur, rfl, hg, ?_, by omega, hcap, by simpa [putCells] using hcs, ?_⟩⟩, ?_⟩
 · have := heap_sortedI (n := q) (os := #[]) (ts ++ zs).toArray hh
   rwa [grow_nil] at this
 · have h1 := take_putCellsI cur (ts ++ zs) (by rw [List.length_append]; omega)
   have h2 := congrArg (List.take ts.length) h1
   rw [List.take_take, List.length_append, Nat.min_eq_left (by omega), List.map_append, List.take_append_of_le_length (by simp), List.take_of_length_le (l := ts.map (Value.int .i64)) (by simp)] at h2
   rw [Nat.mul_one]
   exact h2
 · have := kept_grown (grownBy_sortedI (w := w) (g := g) (n := q) (os := #[]) (ts ++ zs).toArray)
   rw [grow_nil] at this
   simpa using this
theorem own_block {w : World} {base g : Nat} {e : TypeId} {n c : Nat} {xs : List Value} (h : w.ownsRow base e 1 (.slice (some ⟨g, 0, none⟩) n c) n xs) : g < w.heap.size := by
 rcases h.2 with ⟨h0, _⟩ | ⟨g', cap', cur, hv, hg, hh, _⟩
 · cases h0
 · cases hv
   rcases Nat.lt_or_ge g w.heap.size with h1 | h1
   · exact h1
   · rw [Array.getElem?_eq_none h1] at hh; cases hh
end Go.Df
namespace Go.Proofs.YtooejoajojanjaaGreatDoor
open Go.RowKit Go.Df Go.Df.If Go.Sort
attribute [local go_sem ↓] Go.wp_at_zero Go.wp_at_succ
theorem sort_own {base : Nat} {B : Option Addr} {k c : Nat} {l : List Int} (w : World) (h : w.ownsRow base 3 1 (.slice B k c) k (l.map (Value.int .i64))) (hk : k ≤ 1000000) :
   Calls Tryz.prog 69 #[.slice B k c] w fun e w' => e = .returned (.tuple #[]) ∧ w'.ownsRow base 3 1 (.slice B k c) k ((l.mergeSort fun x y => decide (x ≤ y)).map (Value.int .i64)) ∧ Kept (Value.slice B k c).ownBlock.toList w w' := by
 have hl : l.length = k := by simpa using h.1
 rcases h.2 with ⟨hv, h0⟩ | ⟨g, cap, cur, hv, hg, hh, hn, hcap, hcs, htk⟩
 · cases hv
   refine (Any.slices_Sort_int_none layS none 0 w).mono ?_
   rintro e w' ⟨rfl, rfl⟩
   have : l = [] := List.length_eq_zero_iff.1 hl
   subst this
   exact ⟨rfl, by simpa using h, Kept.refl _ _⟩
 · cases hv
   subst hl
   have hgl := own_block h
   have hH : Holds (Value.int .i64) w g 0 l.toArray := holds_of_blockI hh (by simpa using htk)
   refine (Any.slices_Sort_int layS g 0 c l w hH hgl (by omega)).mono ?_
   rintro e w' ⟨rfl, n, os, rfl⟩
   refine ⟨rfl, ?_, ?_⟩
   · exact ownsRow_sortedI (ss := l) (List.length_mergeSort l) hg hh hn hcap hcs
   · have := kept_grown (grownBy_sortedI (w := w) (g := g) (n := n) (os := os) (l.mergeSort fun x y => decide (x ≤ y)).toArray)
     exact this
theorem compact_own {base : Nat} {B : Option Addr} {k c : Nat} {l : List Int} (w : World) (h : w.ownsRow base 3 1 (.slice B k c) k (l.map (Value.int .i64))) (hk : k ≤ 1000000) :
   Calls Tryz.prog 70 #[.slice B k c] w fun e w' => e = .returned (.slice B (Lib.compact l).length c) ∧ w'.ownsRow base 3 1 (.slice B (Lib.compact l).length c) (Lib.compact l).length ((Lib.compact l).map (Value.int .i64)) ∧ Kept (Value.slice B k c).ownBlock.toList w w' := by
 have hl : l.length = k := by simpa using h.1
 rcases h.2 with ⟨hv, h0⟩ | ⟨g, cap, cur, hv, hg, hh, hn, hcap, hcs, htk⟩
 · cases hv
   refine (Any.slices_Compact_int_empty layC none 0 w).mono ?_
   rintro e w' ⟨rfl, rfl⟩
   have : l = [] := List.length_eq_zero_iff.1 hl
   subst this
   exact ⟨rfl, by simpa [Lib.compact, Lib.compactUpTo] using h, Kept.refl _ _⟩
 · cases hv
   subst hl
   have hH : Holds (Value.int .i64) w g 0 l.toArray := holds_of_blockI hh (by simpa using htk)
   refine (Any.slices_Compact_int layC g 0 c l w hH (by omega) hn).mono ?_
   rintro e w' ⟨rfl, q, rfl⟩
   have hle : (Lib.compact l).length ≤ l.length := by unfold Lib.compact Lib.compactUpTo; rw [List.length_map]; exact Nat.le_trans (List.length_filter_le _ _) (by simp)
   obtain ⟨h1, h2⟩ := own_compact (ts := Lib.compact l) (zs := List.replicate (l.length - (Lib.compact l).length) 0) (q := q) (by rw [List.length_replicate]; omega) h
   exact ⟨rfl, h1, h2⟩
end Go.Proofs.YtooejoajojanjaaGreatDoor
namespace Go.Df
open Go.RowKit
namespace If
def mbF (l : List Int) (i : Nat) : Value → Lit := fun v => match v with | .int .i64 x => .bool (decide (x = 0 ∨ ∃ j, j < i ∧ gi l j = x)) | _ => .bool false
theorem mbF_succ {l : List Int} {i : Nat} {y : Int} (e : gi l i = y) : mbF l (i + 1) (.int .i64 y) = .bool true ∧ ∀ x, x ≠ .int .i64 y → mbF l (i + 1) x = mbF l i x := by
 constructor
 · unfold mbF
   simp only
   exact congrArg Lit.bool (decide_eq_true (Or.inr ⟨i, by omega, e⟩))
 · intro x hx
   unfold mbF
   split
   · rename_i z
     refine congrArg Lit.bool ?_
     rw [decide_eq_decide]
     constructor
     · rintro (h | ⟨j, hj, h⟩)
       · exact Or.inl h
       · rcases Nat.lt_or_ge j i with h9 | h9
         · exact Or.inr ⟨j, h9, h⟩
         · obtain rfl : j = i := by omega
           rw [e] at h
           subst h
           exact absurd rfl hx
     · rintro (h | ⟨j, hj, h⟩)
       · exact Or.inl h
       · exact Or.inr ⟨j, by omega, h⟩
   · rfl
theorem mbF_all {l : List Int} {n : Nat} (h : l.length = n) (x : Int) : mbF l n (.int .i64 x) = .bool (decide (x = 0 ∨ x ∈ l)) := by
 unfold mbF
 simp only
 refine congrArg Lit.bool ?_
 rw [decide_eq_decide]
 constructor
 · rintro (h1 | ⟨j, hj, h1⟩)
   · exact Or.inl h1
   · right; rw [← h1, gi_lt (by omega)]; exact List.getElem_mem _
 · rintro (h1 | h1)
   · exact Or.inl h1
   · obtain ⟨j, hj, e⟩ := List.getElem_of_mem h1
     exact Or.inr ⟨j, by omega, by rw [gi_lt hj]; exact e⟩
end If
end Go.Df
namespace Go.Proofs.YtooejoajojanjaaGreatDoor
open Go.RowKit Go.Df Go.Df.If
attribute [local go_sem ↓] Go.wp_at_zero Go.wp_at_succ
theorem mapIB : Tryz.prog.underlying 124 = some (.map 3 4) := by kernel_rfl
theorem run_makeMapH (w : World) (z : Int) : (Instr.makeMap 124 (some (.int .i64 z))).run Tryz.prog w = .ok (.map (some w.heap.size)) (w.alloc (.map #[] 0)) := by
 simp [Instr.makeMap, run_underlying mapIB, asInt, asIntOf, Result.andThen]
theorem pEltT : plainElem (H := Unit) Tryz.prog 4 (.bool true) = some (.lit (.bool true), []) := plainElem_bool (H := Unit) Tryz.undBool true
set_option maxRecDepth 100000 in
set_option maxHeartbeats 8000000 in
theorem apply_any (A B : Option Addr) (n c m d : Nat) (f : List Pr) (l : List Int) (w : World) (hf : Prs w A n f) (hB : Ints w B m l) (hn : n ≤ 10000) (hm : m ≤ 100000) (hwf : ∀ x ∈ l, (Lit.int .i64 x).wf = true) (hwp : ∀ q ∈ f, (Lit.int .i64 q.i).wf = true) :
   Calls Tryz.prog 37 #[.slice A n c, .slice B m d] w (GetF w (applyF f l)) := by
 obtain ⟨i1, hj, hy0, hy1, hy2⟩ := info_parts intf_info
 have HF := Lib.hid hf
 have HG := Lib.hid hB
 have HLF := Lib.hid hf.1
 have HLG := Lib.hid hB.1
 have HWF := Lib.hid hwf
 have HWP := Lib.hid hwp
 clear hf hB hwf hwp
 have hmm := run_makeMapH
 have HK0 := Lib.hid (Tryz.keyInt 0 (by decide))
 have HG1 := Lib.hid (show mbF l 0 (.int .i64 0) = .bool true from congrArg Lit.bool (decide_eq_true (Or.inl rfl)))
 have HG2 : Hid (∀ x, x ≠ Value.int .i64 0 → mbF l 0 x = .bool false) := Lib.hid (fun x hx => by
   unfold mbF
   split
   · rename_i z
     refine congrArg Lit.bool (decide_eq_false ?_)
     rintro (h | ⟨j, hj, -⟩)
     · subst h; exact hx rfl
     · omega
   · rfl)
 go_enter Tryz.func37, Tryz.ntmps37
 go_upto_region 2 with fail
 refine wp_named (fun V => ∃ p, w.heap.size = p ∧ MapV Tryz.prog 3 4 (.bool false) V p 0 (fun _ => .bool false) ∧ Kept [] w V) ⟨_, rfl, MapV.made _ _ _ _ _ _ rfl, (Kept.refl _ _).alloc _⟩ ?_
 rintro V ⟨p, ep, Mp, hkV⟩
 rw [ep]
 have hpw : w.heap.size ≤ p := by omega
 have MP := Lib.hid Mp
 clear hmm ep Mp
 go_upto_region 3 with (at_mapUpdate; refine wpList_store_map _ rfl _ _ _ 124 rfl 3 4 Tryz.lawInt mapIB (.bool false) p 0 _ rfl MP.out (by unfold maxLen; omega) (.int .i64 0) (.bool true) (.int .i64 0) _ rfl rfl HK0.out pEltT (mbF l 0) HG1.out (fun x hx => HG2.out x hx) ?_; intro w1 M1u hs1; have M1 := Lib.hid M1u; clear M1u)
 have hk1 : Kept [] w w1 := kept_fresh hkV hs1 (by simpa using hpw)
 clear MP hs1 hkV
 go_wp2_with fail
 go_loopw [18] (fun i wr => ∃ j : Nat, j ≤ m ∧ i = .int .i64 j ∧ Kept [] w wr ∧ Hid (MapV Tryz.prog 3 4 (.bool false) wr p (1 + j) (mbF l j))) (fun i _ => m - (intOf i).toNat)
 case atStart => exact ⟨0, Nat.zero_le _, rfl, hk1, M1⟩
 case round =>
 clear M1 hk1
 obtain ⟨j, hj', rfl, hkr, mp⟩ := hrel
 by_cases hlt : j < m
 · obtain ⟨b, o, rfl, hl, hc⟩ := HG.out.2 (by omega)
   have h1 := (hkr.cell b _ hl (by simp)).trans (hc j hlt)
   obtain ⟨y, en⟩ : ∃ y, gi l j = y := ⟨_, rfl⟩
   rw [en] at h1
   have hlr : b < wr.heap.size := Nat.lt_of_lt_of_le hl hkr.size
   have hj9 : (j : Int) < (m : Int) := by omega
   have HKY := Lib.hid (Tryz.keyInt y (by rw [← en, gi_lt (by rw [HLG.out]; exact hlt)]; exact HWF.out _ (List.getElem_mem _)))
   have HS1 := Lib.hid (mbF_succ en).1
   have HS2 := Lib.hid (mbF_succ en).2
   clear hc en
   go_wp2_with (at_mapUpdate; refine wpList_store_map _ rfl _ _ _ 124 rfl 3 4 Tryz.lawInt mapIB (.bool false) p (1 + j) _ rfl mp.out (by unfold maxLen; omega) (.int .i64 y) (.bool true) (.int .i64 y) _ rfl rfl HKY.out pEltT (mbF l (j + 1)) HS1.out HS2.out ?_; intro w2 M2u hs2; have M2 := Lib.hid M2u; clear M2u)
   exact ⟨⟨j + 1, by omega, by go_num, kept_fresh hkr hs2 (by simpa using hpw), M2⟩, by simp [intOf]; omega⟩
 obtain rfl : j = m := by omega
 have MP2 : Hid (MapV Tryz.prog 3 4 (.bool false) wr p (1 + j) (mbF l j)) := mp
 clear hlt hj'
 go_wp2_with fail
 go_loopw [8, 27] (fun s8 i wz => ∃ (i' : Nat) (Q : Option Addr) (k cQ : Nat), i' ≤ n ∧ i = .int .i64 i' ∧ s8 = .slice Q k cQ ∧ Kept [] wr wz ∧ (apI f l i').length = k ∧ k ≤ i' ∧ Hid (wz.ownsRow wr.heap.size 3 1 (.slice Q k cQ) k ((apI f l i').map (Value.int .i64)))) (fun _ i _ => n - (intOf i).toNat)
 case atStart => exact ⟨0, none, 0, 0, Nat.zero_le _, rfl, rfl, Kept.refl _ _, rfl, by omega, Lib.hid (World.ownsRow_nil _ _ _ _)⟩
 case round =>
 rename World => wz
 obtain ⟨i, Q, k, cQ, hi, rfl, rfl, hkz, hok, hki, own⟩ := hrel
 have hkwz : Kept [] w wz := keptTrans hkr hkz
 have hsz := hkz.size
 have HOK := Lib.hid hok
 have HX : Hid (∀ y ∈ (Value.slice Q k cQ).ownBlock.toList, wr.heap.size ≤ y) := (fun y hy => own_ge own.out (by simpa using hy))
 clear hok
 by_cases hlt : i < n
 case neg =>
   obtain rfl : i = n := by omega
   have HU : Hid (ascF (apI f l i) = applyF f l) := Lib.hid (by rw [apI_all (Nat.le_of_eq HLF.out)]; rfl)
   go_upto_region 16 with (go_at_call 69; refine (sort_own _ own.out (by omega)).mono ?_; rintro e w2 ⟨rfl, hown2, hk2⟩)
   have OW2 := Lib.hid hown2
   clear hown2
   go_wp2_with (go_at_call 70; refine (compact_own _ OW2.out (by omega)).mono ?_; rintro e w3 ⟨rfl, hown3, hk3⟩)
   go_ret
   have e9 : Lib.compact ((apI f l i).mergeSort fun x y => decide (x ≤ y)) = applyF f l := (sorted_compact _).trans HU.out
   obtain ⟨h1, h2⟩ := Ints.ofOwn hown3
   refine ⟨Q, _, cQ, rfl, by rw [← e9]; exact h1, h2, ?_⟩
   have h3 := hkz.next hk2 (fun y hy => Or.inr (HX.out y hy))
   exact (keptTrans hkr (h3.next hk3 (fun y hy => Or.inr (HX.out y hy)))).toBelow
 obtain ⟨b, o, rfl, hl, hc⟩ := HF.out.2 (by omega)
 have h1 := (hkwz.cell b _ hl (by simp)).trans (hc i hlt).1
 have h2 := (hkwz.cell b _ hl (by simp)).trans (hc i hlt).2
 obtain ⟨yi, yo, en⟩ : ∃ yi yo, gp f i = ⟨yi, yo⟩ := ⟨_, _, rfl⟩
 rw [en] at h1 h2
 have hlr : b < wz.heap.size := Nat.lt_of_lt_of_le hl hkwz.size
 have hi9 : (i : Int) < (n : Int) := by omega
 have HS : Hid (apI f l (i + 1) = apI f l i ++ (if yo ≠ 0 ∧ (yi = 0 ∨ yi ∈ l) then [yo] else [])) := Lib.hid (by rw [apI_succ (by rw [HLF.out]; exact hlt), en])
 have HKY := Lib.hid (Tryz.keyInt yi (by have := HWP.out _ (gp_mem (l := f) (i := i) (by rw [HLF.out]; exact hlt)); rw [en] at this; exact this))
 clear hc en
 go_upto_region 12 with fail
 refine wp_named (fun X => ∃ g, wz.heap.size = g ∧ Blk X g [.int .i64 yi, .int .i64 yo] ∧ Kept [] wz X) ⟨_, rfl, Blk.new _ _ _ _ rfl, (Kept.refl _ _).alloc _⟩ ?_
 rintro X ⟨g, eg, Bg, hkX⟩
 rw [eg]
 have ⟨LG, CG, FG⟩ := Bg
 have hkrX : Kept [] wr X := keptTrans hkz hkX
 have OWX := Lib.hid (own_keptT (X := []) own.out hkX (by simp))
 have MX := Lib.hid (MP2.out.kept hkrX (by simp))
 have hsX := hkrX.size
 clear eg h1 h2 hlr own
 have HAP := Lib.hid (ints_snoc (apI f l i) yo)
 by_cases q0 : yo = 0
 · have z0 : (yo != 0) = false := by simp [q0]
   have HS2 : Hid (apI f l (i + 1) = apI f l i) := Lib.hid (by rw [HS.out, if_neg (fun h => h.1 q0), List.append_nil])
   clear q0
   go_wp2_with fail
   exact ⟨⟨i + 1, Q, k, cQ, by omega, by go_num, rfl, hkrX, by rw [HS2.out, HOK.out], by omega, by rw [HS2.out]; exact OWX⟩, by simp [intOf]; omega⟩
 have z0 : (yo != 0) = true := by simpa using q0
 obtain ⟨v, hv⟩ : ∃ v, decide (yi = 0 ∨ yi ∈ l) = v := ⟨_, rfl⟩
 have HV := Lib.hid (show mbF l j (.int .i64 yi) = .bool v by rw [mbF_all HLG.out, hv])
 have HV2 := Lib.hid hv
 clear hv
 cases v with
 | true =>
   have HS2 : Hid (apI f l (i + 1) = apI f l i ++ [yo]) := Lib.hid (by rw [HS.out, if_pos ⟨q0, of_decide_eq_true HV2.out⟩])
   clear q0
   go_wp2_with (first
     | (at_lookup; refine wpList_look_boolg _ rfl _ _ 124 rfl 3 4 Tryz.lawInt mapIB Tryz.undBool (Tryz.zeroBool _) p (1 + j) _ rfl MX.out (.int .i64 yi) _ rfl HKY.out true HV.out ?_)
     | (at_builtin; refine wpList_append_rd _ rfl _ _ 31 rfl wr.heap.size 3 i1 (.int .i64 0) 1 8 Tryz.underlying31 hj hy0 hy1 hy2 rfl (by decide) (.slice Q k cQ) k _ rfl (own_keptT (X := []) OWX.out ((Kept.refl _ _).alloc _) (by simp)) (some ⟨X.heap.size, 0, none⟩) 1 1 [.int .i64 yo] rfl (Rd.new1 _ _ _ _ rfl) (fun h => by cases h) (by intro u hu; simp at hu; subst hu; rfl) (k + 1) rfl _ HAP.out (by unfold maxLen; omega) (by omega) (by simp; omega) ?_; intro A9 c9 w9 hown4 hk4 hat4; have hk5 := Lib.hid ((hkrX.alloc (.cells #[.int .i64 yo] 3)).next hk4 (fun y hy => Or.inr (HX.out y hy))); have HO4 := Lib.hid hown4; clear hown4 hk4 hat4))
   exact ⟨⟨i + 1, A9, k + 1, c9, by omega, by go_num, rfl, hk5.out, by rw [HS2.out, List.length_append, HOK.out]; rfl, by omega, by rw [HS2.out]; exact HO4⟩, by simp [intOf]; omega⟩
 | false =>
   have HS2 : Hid (apI f l (i + 1) = apI f l i) := Lib.hid (by rw [HS.out, if_neg (fun h => of_decide_eq_false HV2.out h.2), List.append_nil])
   clear q0
   go_wp2_with (at_lookup; refine wpList_look_boolg _ rfl _ _ 124 rfl 3 4 Tryz.lawInt mapIB Tryz.undBool (Tryz.zeroBool _) p (1 + j) _ rfl MX.out (.int .i64 yi) _ rfl HKY.out false HV.out ?_)
   exact ⟨⟨i + 1, Q, k, cQ, by omega, by go_num, rfl, hkrX, by rw [HS2.out, HOK.out], by omega, by rw [HS2.out]; exact OWX⟩, by simp [intOf]; omega⟩
end Go.Proofs.YtooejoajojanjaaGreatDoor
namespace Go.Df
open Go.RowKit
def TBlk (w : World) (g : Nat) (t : TypeId) (C : List Value) : Prop := w.heap[g]? = some (.cells C.toArray t (0, 0))
theorem TBlk.new (w : World) (C : List Value) (t : TypeId) (g : Nat) (hg : g = w.heap.size) : TBlk (w.alloc (.cells C.toArray t)) g t C := by
 subst hg
 exact heap_alloc_new w _
theorem TBlk.blk {w : World} {g : Nat} {t : TypeId} {C : List Value} (h : TBlk w g t C) : Blk w g C :=
 ⟨(Array.getElem?_eq_some_iff.1 h).1, fun i => by
   unfold TBlk at h
   simp [World.cell?, h], fun i => by
   unfold TBlk at h
   simp [World.frozen?, h]⟩
theorem TBlk.kept {w w' : World} {g : Nat} {t : TypeId} {C : List Value} (h : TBlk w g t C) (hk : Kept [] w w') : TBlk w' g t C := (hk.block g (Array.getElem?_eq_some_iff.1 h).1 (by simp)).trans h
theorem TBlk.fb {u8 : TypeId} {B b : Nat} {w w' : World} {g : Nat} {t : TypeId} {C : List Value} (h : TBlk w g t C) (hf : Fb u8 B b w w') (hg : g ≠ b) (ht : t ≠ u8) : TBlk w' g t C :=
 hf.2 g _ h (by simpa using hg) (fun c fz e => ht (by injection e))
theorem TBlk.ints1 {w : World} {g : Nat} {t : TypeId} {x : Int} (h : TBlk w g t [.int .i64 x]) : Ints w (some ⟨g, 0, none⟩) 1 [x] :=
 ⟨rfl, fun _ => ⟨_, _, rfl, h.blk.1, fun i hi => by
   have h9 := h.blk.2.1 (0 + i)
   match i, hi with
   | 0, _ => exact h9⟩⟩
theorem TBlk.ints2 {w : World} {g : Nat} {t : TypeId} {x y : Int} (h : TBlk w g t [.int .i64 x, .int .i64 y]) : Ints w (some ⟨g, 0, none⟩) 2 [x, y] :=
 ⟨rfl, fun _ => ⟨_, _, rfl, h.blk.1, fun i hi => by
   have h9 := h.blk.2.1 (0 + i)
   match i, hi with
   | 0, _ => exact h9
   | 1, _ => exact h9⟩⟩
namespace If
open Sp
theorem txt_take {L : List Su} {i : Nat} (hi : i < L.length) : txt (L.take (i + 1)) = txt (L.take i) ++ txS (gS L i) := by
 have e : gS L i = L[i] := by unfold gS; simp [List.getD, hi]
 rw [List.take_succ_eq_append_getElem hi, txt_app, e]
 simp [txt]
theorem txt_mono {L : List Su} {i : Nat} : (txt (L.take i)).length ≤ (txt L).length := by
 have h : L = L.take i ++ L.drop i := (List.take_append_drop i L).symm
 have h2 : txt L = txt (L.take i) ++ txt (L.drop i) := by rw [← txt_app, ← h]
 rw [h2, List.length_append]
 omega
theorem flat_take {l : List Pr} {j : Nat} {f : Pr → Bs} (hj : j < l.length) : (l.take (j + 1)).flatMap f = (l.take j).flatMap f ++ f (gp l j) := by
 rw [List.take_succ_eq_append_getElem hj, List.flatMap_append, gp_lt hj]
 simp
end If
end Go.Df
namespace Go.Proofs.YtooejoajojanjaaGreatDoor
open Go.RowKit Go.Df Go.Df.If Go.Sort
attribute [local go_sem ↓] Go.wp_at_zero Go.wp_at_succ
theorem nums1 (w : Bs) (a : Int) : w ++ numsB [a] ++ [10] = ln1 w a := by simp [numsB, ln1]
theorem nums2 (w : Bs) (p : Pr) : w ++ numsB [p.i, p.o] ++ [10] = ln2 w p := by simp [numsB, ln2]
theorem ln2_len {w : Bs} {p : Pr} (hw : w.length ≤ 10) (h1 : 0 ≤ p.i ∧ p.i < 1024) (h2 : 0 ≤ p.o ∧ p.o < 1024) : (ln2 w p).length ≤ 100 := by
 have a := itoa_len h1.1 (show p.i < 1000000000 by omega)
 have b := itoa_len h2.1 (show p.o < 1000000000 by omega)
 unfold ln2
 simp
 omega
theorem flat_len {w : Bs} {F : Int} (hF : F ≤ 1024) (hw : w.length ≤ 10) : ∀ {l : List Pr}, (∀ p ∈ l, (0 ≤ p.i ∧ p.i < F) ∧ 0 ≤ p.o ∧ p.o < F) → (l.flatMap (ln2 w)).length ≤ l.length * 100
 | [], _ => by simp
 | p :: l, h => by
   have h1 := h p (by simp)
   have h2 := ln2_len (p := p) hw ⟨h1.1.1, by omega⟩ ⟨h1.2.1, by omega⟩
   have h3 := flat_len (l := l) hF hw fun q hq => h q (List.mem_cons_of_mem _ hq)
   rw [List.flatMap_cons, List.length_append, List.length_cons]
   omega
def exS (u : Su) (j : Nat) : Bs := ln1 kwF u.f ++ (u.x.take j).flatMap (ln2 kwE)
def thS (u : Su) (j : Nat) : Bs := ln1 kwF u.f ++ u.x.flatMap (ln2 kwE) ++ (u.y.take j).flatMap (ln2 kwT)
set_option maxRecDepth 100000 in
set_option maxHeartbeats 8000000 in
theorem ptext_any (A : Option Addr) (n c : Nat) (L : List Su) (w : World) (hS : SmW w A n L) (hn : n ≤ 9223372036854775807) (ht : ∀ B w', B = w.heap.size → Below B w w' → Tabs B w') :
   Calls Tryz.prog 17 #[.slice A n c] w fun e w' => e = .returned (.tuple #[.string ⟨(texS L).1.toArray⟩, .int .i64 (texS L).2]) ∧ Below w.heap.size w w' := by
 have HS := Lib.hid hS
 have HT := Lib.hid ht
 obtain ⟨pe, hpe⟩ : ∃ pe, sumErr 1024 L = pe := ⟨_, rfl⟩
 have HPE := Lib.hid hpe
 have HCK := Lib.hid (sumck_any A n c L 1024 w hS hn)
 rw [hpe] at HCK
 clear hS ht hpe
 go_enter Tryz.func17, Tryz.ntmps17
 go_upto_region 2 with (go_at_call 11; refine HCK.out.mono ?_; rintro e w1 ⟨rfl, hb1⟩)
 have HK1 : Hid (Kept [] w w1) := Lib.hid ((Kept.refl _ _).call hb1)
 by_cases h0 : pe = 0
 case neg =>
   have d0 : (pe != 0) = true := by simpa using h0
   have hE : Hid (texS L = ([], pe)) := by
     show _ = _
     unfold texS
     rw [HPE.out, if_pos h0]
   clear h0
   go_wp2_with fail
   go_ret2
   rw [hE.out]
   exact ⟨rfl, hb1⟩
 subst h0
 have HOK := Lib.hid (sum_ok.1 HPE.out)
 have HLN : Hid (L.length = n) := Lib.hid HS.out.len
 have hn256 : n ≤ 256 := by have h1 := HOK.out.2.1; have h2 := HLN.out; omega
 go_upto_region 5 with fail
 refine wp_named (fun V => ∃ b, w1.heap.size = b ∧ TBlk V b 77 [.pointer none, .slice none 0 0] ∧ Kept [] w1 V) ⟨_, rfl, TBlk.new _ _ _ _ rfl, (Kept.refl _ _).alloc _⟩ ?_
 rintro V ⟨b, eb, TB, hkV⟩
 rw [eb]
 have HKV : Hid (Kept [] w V) := Lib.hid (keptTrans HK1.out hkV)
 have hwb : w.heap.size ≤ b := by have := HK1.out.size; omega
 have hbV : b < V.heap.size := TB.blk.1
 have HTV : Hid (Tabs w.heap.size V) := Lib.hid (HT.out _ _ rfl HKV.out.toBelow)
 have HB0 : Hid (Wbd w.heap.size b (txt (L.take 0)) V) := Lib.hid (.inl ⟨hwb, .slice none 0 0, TB, ⟨rfl, .inl ⟨rfl, rfl⟩⟩, by simp [Value.ownBlock]⟩)
 have HSV := Lib.hid (HS.out.later HKV.out.toBelow)
 have HSZ : Hid (w.heap.size ≤ V.heap.size) := Lib.hid HKV.out.size
 obtain ⟨B, hBdef⟩ : ∃ B, w.heap.size = B := ⟨_, rfl⟩
 rw [hBdef] at HTV HB0 HSZ hwb
 have HBD := Lib.hid hBdef
 clear eb TB hkV hBdef
 go_wp2_with fail
 go_loopw [21] (fun s wr => ∃ i : Nat, i ≤ n ∧ s = .int .i64 i ∧ Hid (Wbd B b (txt (L.take i)) wr) ∧ Hid (FbT B b V wr) ∧ Hid ((txt (L.take i)).length ≤ 65536)) (fun s _ => n - (intOf s).toNat)
 case atStart => exact ⟨0, Nat.zero_le _, rfl, HB0, Lib.hid (Fb.refl _ _ _ _), Lib.hid (by simp [txt])⟩
 case round =>
 obtain ⟨i, hi, rfl, HBR, HFR, HLE⟩ := hrel
 have HBW : Hid (Below B w wr) := Lib.hid (by have h1 := HKV.out.toBelow; rw [HBD.out] at h1; exact h1.trans HFR.out.1)
 have hBr : B ≤ wr.heap.size := by have h1 := HSZ.out; have h2 := HFR.out.1.size; omega
 by_cases hlt : i < n
 case neg =>
   obtain rfl : i = n := by omega
   have HTK : Hid (L.take i = L) := Lib.hid (List.take_of_length_le (by rw [HLN.out]; exact Nat.le_refl _))
   have hE : Hid (texS L = (txt L, 0)) := by
     show _ = _
     unfold texS
     rw [HPE.out, if_neg (by simp), if_neg (by have h9 := HLE.out; rw [HTK.out] at h9; omega)]
   have HBT : Hid (Wbd B b (txt L) wr) := Lib.hid (by have h9 := HBR.out; rw [HTK.out] at h9; exact h9)
   go_wp2_with (go_at_call 44; refine (wstring_any B b (txt L) _ HBT.out hBr).mono ?_; rintro e w9 ⟨rfl, hb9⟩)
   go_ret2
   rw [hE.out]
   exact ⟨rfl, by rw [HBD.out]; exact HBW.out.trans hb9⟩
 have HBW0 : Hid (Below w.heap.size w wr) := Lib.hid (by have h9 := HBW.out; rw [← HBD.out] at h9; exact h9)
 obtain ⟨bL, oL, rfl, hl, hc⟩ := (HS.out.later HBW0.out).mem (by omega)
 obtain ⟨E, ne, ce, T, nt, ct, c0, c1, c2, hpx, hpy⟩ := hc i hlt
 have hok := HOK.out.2.2 i (by rw [HLN.out]; exact hlt)
 have HTX : Hid (txt (L.take (i + 1)) = txt (L.take i) ++ txS (gS L i)) := Lib.hid (txt_take (by rw [HLN.out]; exact hlt))
 have hfr : 0 ≤ (gS L i).f ∧ (gS L i).f < 256 := by
   have h9 := hok.1
   unfold fnErr at h9
   split at h9
   · cases h9
   · omega
 obtain ⟨u, hu⟩ : ∃ u, gS L i = u := ⟨_, rfl⟩
 rw [hu] at c0 hpx hpy hok hfr HTX
 obtain ⟨f, ef⟩ : ∃ f, u.f = f := ⟨_, rfl⟩
 rw [ef] at c0 hfr
 have HEF := Lib.hid ef
 have HRX : Hid (∀ p ∈ u.x, (0 ≤ p.i ∧ p.i < 1024) ∧ 0 ≤ p.o ∧ p.o < 1024) := Lib.hid (fun p hp => ls_rng hok.2.1 hp)
 have HRY : Hid (∀ p ∈ u.y, (0 ≤ p.i ∧ p.i < 1024) ∧ 0 ≤ p.o ∧ p.o < 1024) := Lib.hid (fun p hp => ls_rng hok.2.2 hp)
 have hlx : u.x.length ≤ 8192 := (ls_ok.1 hok.2.1).1
 have hly : u.y.length ≤ 8192 := (ls_ok.1 hok.2.2).1
 have hfl : (ln1 kwF u.f).length ≤ 20 := by
   have h9 := itoa_len (n := u.f) (by omega) (by omega)
   unfold ln1 kwF
   simp
   omega
 have HLX : Hid (∀ j, (exS u j).length ≤ 1000000) := Lib.hid (fun j => by
   have h1 := flat_len (w := kwE) (F := 1024) (by omega) (by decide) (l := u.x.take j) (fun p hp => HRX.out p (List.mem_of_mem_take hp))
   have h2 := List.length_take_le' j u.x
   unfold exS
   rw [List.length_append]
   omega)
 have HLY : Hid (∀ j, (thS u j).length ≤ 2000000) := Lib.hid (fun j => by
   have h0 := flat_len (w := kwE) (F := 1024) (by omega) (by decide) (l := u.x) HRX.out
   have h1 := flat_len (w := kwT) (F := 1024) (by omega) (by decide) (l := u.y.take j) (fun p hp => HRY.out p (List.mem_of_mem_take hp))
   have h2 := List.length_take_le' j u.y
   unfold thS
   rw [List.length_append, List.length_append]
   omega)
 have HPX : Hid (Prs w E ne u.x) := Lib.hid (by
   obtain ⟨b9, o9, e9, l9, c9⟩ := HS.out.mem (by omega)
   obtain ⟨E', ne', ce', T', nt', ct', d0, d1, d2, q1, q2⟩ := c9 i hlt
   rw [hu] at q1 q2
   have h1 := (HBW0.out.cell (p := ⟨b9, o9 + i * 3 + 1, none⟩) l9).trans d1
   injection e9 with e9
   injection e9 with e1 e2
   subst e1 e2
   rw [c1] at h1
   injection h1 with h1
   injection h1 with h2 h3 h4
   subst h2 h3
   exact q1)
 have HPY : Hid (Prs w T nt u.y) := Lib.hid (by
   obtain ⟨b9, o9, e9, l9, c9⟩ := HS.out.mem (by omega)
   obtain ⟨E', ne', ce', T', nt', ct', d0, d1, d2, q1, q2⟩ := c9 i hlt
   rw [hu] at q1 q2
   have h1 := (HBW0.out.cell (p := ⟨b9, o9 + i * 3 + 2, none⟩) l9).trans d2
   injection e9 with e9
   injection e9 with e1 e2
   subst e1 e2
   rw [c2] at h1
   injection h1 with h1
   injection h1 with h2 h3 h4
   subst h2 h3
   exact q2)
 have hi9 : (i : Int) < (n : Int) := by omega
 clear hc hpx hpy hok hu ef
 go_upto_region 9 with fail
 refine wp_named (fun V1 => ∃ g, wr.heap.size = g ∧ TBlk V1 g 30 [.int .i64 f, .slice E ne ce, .slice T nt ct] ∧ Kept [] wr V1) ⟨_, rfl, TBlk.new _ _ _ _ rfl, (Kept.refl _ _).alloc _⟩ ?_
 rintro V1 ⟨g8, eg8, TB8, hkV1⟩
 rw [eg8]
 have HTB := Lib.hid TB8
 have ⟨L8, C8, F8⟩ := TB8.blk
 have HF1 : Hid (FbT B b V V1) := Lib.hid (HFR.out.trans (Fb.of_kept hkV1 hBr))
 have HB1 := Lib.hid (HBR.out.kept hkV1)
 have hB1 : B ≤ V1.heap.size := Nat.le_trans hBr hkV1.size
 have hbr : b < wr.heap.size := Nat.lt_of_lt_of_le hbV HFR.out.1.size
 have hb1 : b < V1.heap.size := Nat.lt_of_lt_of_le hbr hkV1.size
 have hg8 : g8 ≠ b := by omega
 have HT1 : Hid (Tabs B V1) := Lib.hid (HTV.out.later HF1.out.1)
 have HLL : Hid ((txt (L.take i)).length ≤ 1000000000) := Lib.hid (by have := HLE.out; omega)
 clear eg8 TB8 hkV1 c0 c1 c2 hl
 go_upto_region 10 with (go_at_call 39; refine (line_any B b (txt (L.take i)) kwF (some ⟨V1.heap.size, 0, none⟩) 1 1 [f] _ (HB1.out.kept ((Kept.refl _ _).alloc _)) (fun w' hf => (TBlk.fb (TBlk.new V1 [.int .i64 f] 3 _ rfl) hf (Nat.ne_of_gt hb1) (by decide)).ints1) (by omega) (fun x hx => by simp at hx; omega) HLL.out (by decide) (by simp; omega) (HT1.out.later (((Kept.refl [] V1).alloc _).toBelow.mono hB1))).mono ?_; rintro e w3 ⟨rfl, hb3, hf3⟩; have HB3 := Lib.hid hb3; have HF13 : Hid (FbT B b V1 w3) := Lib.hid ((Fb.of_kept ((Kept.refl [] V1).alloc _) hB1).trans hf3); clear hb3 hf3)
 have HTB3 := Lib.hid (HTB.out.fb HF13.out hg8 (by decide))
 have ⟨L83, C83, F83⟩ := HTB3.out.blk
 have HF3 : Hid (FbT B b V w3) := Lib.hid (HF1.out.trans HF13.out)
 have HBW3 : Hid (Below B w w3) := Lib.hid (by have h1 := HKV.out.toBelow; rw [HBD.out] at h1; exact h1.trans HF3.out.1)
 have hB3 : B ≤ w3.heap.size := Nat.le_trans hB1 HF13.out.1.size
 have hb3 : b < w3.heap.size := Nat.lt_of_lt_of_le hb1 HF13.out.1.size
 have HB30 : Hid (Wbd B b (txt (L.take i) ++ exS u 0) w3) := Lib.hid (by
   have h9 := HB3.out
   rw [nums1, ← HEF.out] at h9
   unfold exS
   simpa using h9)
 clear C8 F8 L8
 have hm1 : ne ≤ 8192 := by have h1 := HPX.out.1; omega
 go_wp2_with fail
 go_loopw [33] (fun s wq => ∃ j : Nat, j ≤ ne ∧ s = .int .i64 j ∧ Hid (Wbd B b (txt (L.take i) ++ exS u j) wq) ∧ Hid (FbT B b w3 wq)) (fun s _ => ne - (intOf s).toNat)
 case atStart => exact ⟨0, Nat.zero_le _, rfl, HB30, Lib.hid (Fb.refl _ _ _ _)⟩
 case round =>
 rename World => wq
 obtain ⟨j, hj, rfl, HBQ, HFQ⟩ := hrel
 have HBWQ : Hid (Below B w wq) := Lib.hid (HBW3.out.trans HFQ.out.1)
 have hBq : B ≤ wq.heap.size := Nat.le_trans hB3 HFQ.out.1.size
 have hbq : b < wq.heap.size := Nat.lt_of_lt_of_le hb3 HFQ.out.1.size
 by_cases hlj : j < ne
 case pos =>
   as_aux_lemma =>
     obtain ⟨bP, oP, rfl, hlP, hcP⟩ := (HPX.out.later (by have h9 := HBWQ.out; rw [← HBD.out] at h9; exact h9)).2 (by omega)
     obtain ⟨p1, p2⟩ := hcP j hlj
     obtain ⟨pi, po, ep⟩ : ∃ pi po, gp u.x j = ⟨pi, po⟩ := ⟨_, _, rfl⟩
     rw [ep] at p1 p2
     have hpr := HRX.out (gp u.x j) (gp_mem (by rw [HPX.out.1]; exact hlj))
     rw [ep] at hpr
     dsimp only at hpr
     obtain ⟨⟨hp1, hp2⟩, hp3, hp4⟩ := hpr
     have HSN : Hid (exS u (j + 1) = exS u j ++ ln2 kwE ⟨pi, po⟩) := by
       show _ = _
       unfold exS
       rw [flat_take (by rw [HPX.out.1]; exact hlj), ep]
       simp only [List.append_assoc]
     have HSQ : Hid (txt (L.take i) ++ exS u (j + 1) = txt (L.take i) ++ exS u j ++ (kwE ++ numsB [pi, po] ++ [10])) := by
       show _ = _
       rw [HSN.out, ← nums2]
       simp only [List.append_assoc]
     have hj1 : j + 1 ≤ ne := hlj
     have HLQ : Hid ((txt (L.take i) ++ exS u j).length ≤ 1000000000) := by
       show _ ≤ _
       have h1 := HLE.out
       have h2 := HLX.out j
       rw [List.length_append]
       omega
     have hj9 : (j : Int) < (ne : Int) := by omega
     clear hcP ep
     go_upto_region 13 with fail
     refine wp_named (fun V2 => ∃ g, wq.heap.size = g ∧ Blk V2 g [.int .i64 pi, .int .i64 po] ∧ Kept [] wq V2) ⟨_, rfl, Blk.new _ _ _ _ rfl, (Kept.refl _ _).alloc _⟩ ?_
     rintro V2 ⟨gp9, eg, Bg, hk2⟩
     rw [eg]
     have ⟨LG, CG, FG⟩ := Bg
     have HK2 := Lib.hid hk2
     have hBv : B ≤ V2.heap.size := Nat.le_trans hBq hk2.size
     have hbv : b < V2.heap.size := Nat.lt_of_lt_of_le hbq hk2.size
     have HB2 := Lib.hid (HBQ.out.kept hk2)
     have HF2 : Hid (FbT B b wq V2) := Lib.hid (Fb.of_kept hk2 hBq)
     have HT2 : Hid (Tabs B V2) := Lib.hid (HTV.out.later (HF3.out.1.trans (HFQ.out.1.trans HF2.out.1)))
     clear eg hk2 p1 p2 hlP
     go_upto_region 14 with (go_at_call 39; refine (line_any B b (txt (L.take i) ++ exS u j) kwE (some ⟨V2.heap.size, 0, none⟩) 2 2 [pi, po] _ (HB2.out.kept ((Kept.refl _ _).alloc _)) (fun w' hf => (TBlk.fb (TBlk.new V2 [.int .i64 pi, .int .i64 po] 3 _ rfl) hf (Nat.ne_of_gt hbv) (by decide)).ints2) (by omega) (fun x hx => by simp at hx; rcases hx with rfl | rfl <;> omega) HLQ.out (by decide) (by simp; omega) (HT2.out.later (((Kept.refl [] V2).alloc _).toBelow.mono hBv))).mono ?_; rintro e w6 ⟨rfl, hb6, hf6⟩; have HB6 := Lib.hid hb6; have HF6 : Hid (FbT B b V2 w6) := Lib.hid ((Fb.of_kept ((Kept.refl [] V2).alloc _) hBv).trans hf6); clear hb6 hf6)
     go_wp2_with fail
     exact ⟨⟨j + 1, hj1, by go_num, Lib.hid (by rw [HSQ.out]; exact HB6.out), Lib.hid ((HFQ.out.trans HF2.out).trans HF6.out)⟩, by simp [intOf]; omega⟩
 obtain rfl : j = ne := by omega
 have HTB5 := Lib.hid (HTB3.out.fb HFQ.out hg8 (by decide))
 have HF5 : Hid (FbT B b V wq) := Lib.hid (HF3.out.trans HFQ.out)
 have HB50 : Hid (Wbd B b (txt (L.take i) ++ thS u 0) wq) := Lib.hid (by
   have h9 := HBQ.out
   have e9 : u.x.take j = u.x := List.take_of_length_le (by rw [HPX.out.1]; exact Nat.le_refl _)
   unfold exS at h9
   rw [e9] at h9
   unfold thS
   simpa using h9)
 have ⟨L85, C85, F85⟩ := HTB5.out.blk
 clear C83 F83 L83 hlj
 go_upto_region 15 with fail
 refine wp_named (fun w5 => wq = w5) rfl ?_
 rintro w5 ew5
 rw [ew5] at HTB5 HF5 HB50 HBWQ hBq hbq C85 F85 L85
 have hm2 : nt ≤ 8192 := by have h1 := HPY.out.1; omega
 go_wp2_with fail
 go_loopw [48] (fun s wz => ∃ j : Nat, j ≤ nt ∧ s = .int .i64 j ∧ Hid (Wbd B b (txt (L.take i) ++ thS u j) wz) ∧ Hid (FbT B b w5 wz)) (fun s _ => nt - (intOf s).toNat)
 case atStart => exact ⟨0, Nat.zero_le _, rfl, HB50, Lib.hid (Fb.refl _ _ _ _)⟩
 case round =>
 rename World => wz
 obtain ⟨j, hj, rfl, HBQ, HFQ⟩ := hrel
 have HBWZ : Hid (Below B w wz) := Lib.hid (HBWQ.out.trans HFQ.out.1)
 have hBq : B ≤ wz.heap.size := Nat.le_trans hBq HFQ.out.1.size
 have hbq : b < wz.heap.size := Nat.lt_of_lt_of_le hbq HFQ.out.1.size
 by_cases hlj : j < nt
 case pos =>
   as_aux_lemma =>
     obtain ⟨bP, oP, rfl, hlP, hcP⟩ := (HPY.out.later (by have h9 := HBWZ.out; rw [← HBD.out] at h9; exact h9)).2 (by omega)
     obtain ⟨p1, p2⟩ := hcP j hlj
     obtain ⟨pi, po, ep⟩ : ∃ pi po, gp u.y j = ⟨pi, po⟩ := ⟨_, _, rfl⟩
     rw [ep] at p1 p2
     have hpr := HRY.out (gp u.y j) (gp_mem (by rw [HPY.out.1]; exact hlj))
     rw [ep] at hpr
     dsimp only at hpr
     obtain ⟨⟨hp1, hp2⟩, hp3, hp4⟩ := hpr
     have HSN : Hid (thS u (j + 1) = thS u j ++ ln2 kwT ⟨pi, po⟩) := by
       show _ = _
       unfold thS
       rw [flat_take (by rw [HPY.out.1]; exact hlj), ep]
       simp only [List.append_assoc]
     have HSQ : Hid (txt (L.take i) ++ thS u (j + 1) = txt (L.take i) ++ thS u j ++ (kwT ++ numsB [pi, po] ++ [10])) := by
       show _ = _
       rw [HSN.out, ← nums2]
       simp only [List.append_assoc]
     have hj1 : j + 1 ≤ nt := hlj
     have HLQ : Hid ((txt (L.take i) ++ thS u j).length ≤ 1000000000) := by
       show _ ≤ _
       have h1 := HLE.out
       have h2 := HLY.out j
       rw [List.length_append]
       omega
     have hj9 : (j : Int) < (nt : Int) := by omega
     clear hcP ep
     go_upto_region 18 with fail
     refine wp_named (fun V2 => ∃ g, wz.heap.size = g ∧ Blk V2 g [.int .i64 pi, .int .i64 po] ∧ Kept [] wz V2) ⟨_, rfl, Blk.new _ _ _ _ rfl, (Kept.refl _ _).alloc _⟩ ?_
     rintro V2 ⟨gp9, eg, Bg, hk2⟩
     rw [eg]
     have ⟨LG, CG, FG⟩ := Bg
     have HK2 := Lib.hid hk2
     have hBv : B ≤ V2.heap.size := Nat.le_trans hBq hk2.size
     have hbv : b < V2.heap.size := Nat.lt_of_lt_of_le hbq hk2.size
     have HB2 := Lib.hid (HBQ.out.kept hk2)
     have HF2 : Hid (FbT B b wz V2) := Lib.hid (Fb.of_kept hk2 hBq)
     have HT2 : Hid (Tabs B V2) := Lib.hid (HTV.out.later (HF5.out.1.trans (HFQ.out.1.trans HF2.out.1)))
     clear eg hk2 p1 p2 hlP
     go_upto_region 19 with (go_at_call 39; refine (line_any B b (txt (L.take i) ++ thS u j) kwT (some ⟨V2.heap.size, 0, none⟩) 2 2 [pi, po] _ (HB2.out.kept ((Kept.refl _ _).alloc _)) (fun w' hf => (TBlk.fb (TBlk.new V2 [.int .i64 pi, .int .i64 po] 3 _ rfl) hf (Nat.ne_of_gt hbv) (by decide)).ints2) (by omega) (fun x hx => by simp at hx; rcases hx with rfl | rfl <;> omega) HLQ.out (by decide) (by simp; omega) (HT2.out.later (((Kept.refl [] V2).alloc _).toBelow.mono hBv))).mono ?_; rintro e w6 ⟨rfl, hb6, hf6⟩; have HB6 := Lib.hid hb6; have HF6 : Hid (FbT B b V2 w6) := Lib.hid ((Fb.of_kept ((Kept.refl [] V2).alloc _) hBv).trans hf6); clear hb6 hf6)
     go_wp2_with fail
     exact ⟨⟨j + 1, hj1, by go_num, Lib.hid (by rw [HSQ.out]; exact HB6.out), Lib.hid ((HFQ.out.trans HF2.out).trans HF6.out)⟩, by simp [intOf]; omega⟩
 obtain rfl : j = nt := by omega
 have HTE : Hid (txt (L.take i) ++ thS u j = txt (L.take (i + 1))) := by
   show _ = _
   have e9 : u.y.take j = u.y := List.take_of_length_le (by rw [HPY.out.1]; exact Nat.le_refl _)
   rw [HTX.out, txS]
   unfold thS
   rw [e9]
 have HBZ : Hid (Wbd B b (txt (L.take (i + 1))) wz) := Lib.hid (by rw [← HTE.out]; exact HBQ.out)
 obtain ⟨ln, hln⟩ : ∃ ln, (txt (L.take (i + 1))).length = ln := ⟨_, rfl⟩
 have HLN2 := Lib.hid hln
 have HWL : Hid (Calls Tryz.prog 43 #[.pointer (some ⟨b, 0, none⟩)] wz fun e w' => e = .returned (.int .i64 ln) ∧ w' = wz) := Lib.hid (by rw [← hln]; exact wlen_any B b _ wz HBZ.out)
 clear hln hlj
 by_cases hbig : 65536 < ln
 · have g1 : decide ((65536 : Int) < (ln : Int)) = true := by simp; omega
   have hE : Hid (texS L = ([], 3)) := by
     show _ = _
     have h9 := txt_mono (L := L) (i := i + 1)
     have h8 := HLN2.out
     unfold texS
     rw [HPE.out, if_neg (by simp), if_pos (by omega)]
   clear hbig
   go_wp2_with (go_at_call 43; refine HWL.out.mono ?_; rintro e w9 ⟨rfl, rfl⟩)
   go_ret2
   rw [hE.out]
   exact ⟨rfl, by rw [HBD.out]; exact HBWZ.out⟩
 · have g1 : decide ((65536 : Int) < (ln : Int)) = false := by simp; omega
   have HLE2 : Hid ((txt (L.take (i + 1))).length ≤ 65536) := by show _ ≤ _; have := HLN2.out; omega
   clear hbig
   go_wp2_with (go_at_call 43; refine HWL.out.mono ?_; rintro e w9 ⟨rfl, rfl⟩)
   exact ⟨⟨i + 1, by omega, by go_num, HBZ, Lib.hid (HF5.out.trans HFQ.out), HLE2⟩, by simp [intOf]; omega⟩
end Go.Proofs.YtooejoajojanjaaGreatDoor
namespace Go.Df.If
open Go.RowKit Go.Df
def GetAp (w : World) (a b : List Int) (e : Ending) (w' : World) : Prop := ∃ A1 n1 c1 A2 n2 c2, e = .returned (.tuple #[.slice A1 n1 c1, .slice A2 n2 c2]) ∧ Ints w' A1 n1 a ∧ Ints w' A2 n2 b ∧ Below w.heap.size w w'
end Go.Df.If
namespace Go.Proofs.YtooejoajojanjaaGreatDoor
open Go.RowKit Go.Df Go.Df.If
attribute [local go_sem ↓] Go.wp_at_zero Go.wp_at_succ
set_option maxRecDepth 100000 in
set_option maxHeartbeats 4000000 in
theorem pap_any (E T B : Option Addr) (ne ce nt ct m d : Nat) (uf : Int) (x y : List Pr) (l : List Int) (w : World) (hx : Prs w E ne x) (hy : Prs w T nt y) (hB : Ints w B m l) (hne : ne ≤ 10000) (hnt : nt ≤ 10000) (hm : m ≤ 100000) (hwl : ∀ x ∈ l, (Lit.int .i64 x).wf = true) (hwx : ∀ q ∈ x, (Lit.int .i64 q.i).wf = true) (hwy : ∀ q ∈ y, (Lit.int .i64 q.i).wf = true) :
   Calls Tryz.prog 14 #[.agg #[.int .i64 uf, .slice E ne ce, .slice T nt ct], .slice B m d] w (GetAp w (applyF x l) (applyF y l)) := by
 have HX := Lib.hid hx
 have HY := Lib.hid hy
 have HB := Lib.hid hB
 clear hx hy hB
 go_enter Tryz.func14, Tryz.ntmps14
 go_upto_region 1 with fail
 refine wp_named (fun W => ∃ b0, w.heap.size = b0 ∧ Blk W b0 [.int .i64 uf, .slice E ne ce, .slice T nt ct] ∧ Below w.heap.size w W) ⟨_, rfl, ?_, ?_⟩ ?_
 · exact kbn
 · go_grown
 rintro W ⟨b0, e0, B0, hB⟩
 rw [e0]
 have G0 : w.heap.size ≤ b0 := by omega
 clear e0
 have ⟨L0, C0, F0⟩ := B0
 have hkW : Kept [] w W := (Kept.refl _ _).call hB
 have HKW := Lib.hid hkW
 clear hkW
 go_upto_region 1 with fail
 refine wp_region_E 9 (fun w' => SX0 W w') (by kernel_rfl) (by (exact kp0)) (fun hHeld => ?_)
 refine WE_tk 0 ?_
 refine WE_tk 1 ?_
 refine WE_tk 2 ?_
 refine WE_tk 4 ?_
 refine WE_tk 5 ?_
 refine WE_tk 6 ?_
 refine WE_step 3 rfl (by kernel_rfl) (fun K hK => ?_)
 go_simp
 (first | (go_at_call 37; (with_reducible refine (apply_any E B ne ce m d x l _ (HX.out.later (keptTrans HKW.out hHeld.1).toBelow) (HB.out.kept (keptTrans HKW.out hHeld.1)) hne hm hwl hwx).mono ?_); rintro e w3 ⟨A3, n3, c3, rfl, hi3, hc3, hb3⟩; have HI3 := Lib.hid hi3; clear hi3) | (go_at_call 37; (with_reducible refine (apply_any T B nt ct m d y l _ (HY.out.later (keptTrans HKW.out hHeld.1).toBelow) (HB.out.kept (keptTrans HKW.out hHeld.1)) hnt hm hwl hwy).mono ?_); rintro e w4 ⟨A4, n4, c4, rfl, hi4, hc4, hb4⟩; have HI4 := Lib.hid hi4; have HB4 := Lib.hid hb4; clear hi4))
 (try go_wp2_with fail)
 refine hK.out _ _ ?_ (fun hHeld => ?_)
 · (exact kp0)
 clear hK K
 refine WE_put ?_
 refine WE_step 7 rfl (by kernel_rfl) (fun K hK => ?_)
 go_simp
 (first | (go_at_call 37; (with_reducible refine (apply_any E B ne ce m d x l _ (HX.out.later (keptTrans HKW.out hHeld.1).toBelow) (HB.out.kept (keptTrans HKW.out hHeld.1)) hne hm hwl hwx).mono ?_); rintro e w3 ⟨A3, n3, c3, rfl, hi3, hc3, hb3⟩; have HI3 := Lib.hid hi3; clear hi3) | (go_at_call 37; (with_reducible refine (apply_any T B nt ct m d y l _ (HY.out.later (keptTrans HKW.out hHeld.1).toBelow) (HB.out.kept (keptTrans HKW.out hHeld.1)) hnt hm hwl hwy).mono ?_); rintro e w4 ⟨A4, n4, c4, rfl, hi4, hc4, hb4⟩; have HI4 := Lib.hid hi4; have HB4 := Lib.hid hb4; clear hi4))
 (try go_wp2_with fail)
 refine hK.out _ _ ?_ (fun hHeld => ?_)
 · (exact kp0)
 clear hK K
 refine WE_put ?_
 refine WE_tk 8 ?_
 refine WE_last rfl (by kernel_rfl) (fun K hK => ?_)
 go_simp
 refine hK.out _ _ ?_
 clear hK K
 have hk4 : Kept [] W w4 := hHeld.1
 go_wp2_with fail
 go_ret2
 exact ⟨A3, n3, c3, A4, n4, c4, rfl, HI3.out.later HB4.out, HI4.out, (keptTrans HKW.out hk4).toBelow⟩
set_option maxRecDepth 100000 in
set_option maxHeartbeats 4000000 in
theorem psame_eq (A B : Option Addr) (n a b : Nat) (l : List Pr) (w : World) (hA : Prs w A n l) (hB : Prs w B n l) (hn : n ≤ 9223372036854775807) :
   Calls Tryz.prog 32 #[.slice A n a, .slice B n b] w fun e w' => e = .returned (.bool true) ∧ Below w.heap.size w w' := by
 have HA := Lib.hid hA
 have HB := Lib.hid hB
 clear hA hB
 go_enter Tryz.func32, Tryz.ntmps32
 go_wp2_with fail
 go_loopw [5] (fun s5 wr => ∃ i : Nat, i ≤ n ∧ s5 = .int .i64 i ∧ Kept [] w wr) (fun s5 _ => n - (intOf s5).toNat)
 case atStart => exact ⟨0, Nat.zero_le _, rfl, Kept.refl _ _⟩
 case round =>
 obtain ⟨i, hi, rfl, hkr⟩ := hrel
 by_cases hlt : i < n
 · obtain ⟨b1, o1, rfl, hl1, hc1⟩ := HA.out.2 (by omega)
   obtain ⟨b2, o2, rfl, hl2, hc2⟩ := HB.out.2 (by omega)
   have r1 := (hkr.cell b1 _ hl1 (by simp)).trans (hc1 i hlt).1
   have r2 := (hkr.cell b2 _ hl2 (by simp)).trans (hc2 i hlt).1
   have r3 := (hkr.cell b1 _ hl1 (by simp)).trans (hc1 i hlt).2
   have r4 := (hkr.cell b2 _ hl2 (by simp)).trans (hc2 i hlt).2
   obtain ⟨x, y, hx⟩ : ∃ x y, gp l i = ⟨x, y⟩ := ⟨_, _, rfl⟩
   rw [hx] at r1 r2 r3 r4
   have l1 : b1 < wr.heap.size := Nat.lt_of_lt_of_le hl1 hkr.size
   have l2 : b2 < wr.heap.size := Nat.lt_of_lt_of_le hl2 hkr.size
   have hi9 : (i : Int) < (n : Int) := by omega
   clear hc1 hc2 hx
   go_upto_region 6 with fail
   go_quiet (fail)
   go_wp2_with fail
   exact ⟨⟨i + 1, by omega, by go_num, hkr.drewN _⟩, by simp [intOf]; omega⟩
 · obtain rfl : i = n := by omega
   go_wp2_with fail
   go_ret
   exact ⟨rfl, hkr.toBelow⟩
set_option maxRecDepth 100000 in
set_option maxHeartbeats 4000000 in
theorem same35_any (A B : Option Addr) (n a b : Nat) (L : List Su) (w : World) (hA : SmW w A n L) (hB : SmW w B n L) (hn : n ≤ 9223372036854775807) (hL : ∀ i, i < n → (gS L i).x.length ≤ 9223372036854775807 ∧ (gS L i).y.length ≤ 9223372036854775807) :
   Calls Tryz.prog 20 #[.slice A n a, .slice B n b] w fun e w' => e = .returned (.bool true) ∧ Below w.heap.size w w' := by
 have HA := Lib.hid hA
 have HB := Lib.hid hB
 have HL := Lib.hid hL
 clear hA hB hL
 go_enter Tryz.func20, Tryz.ntmps20
 go_wp2_with fail
 go_loopw [5] (fun s5 wr => ∃ i : Nat, i ≤ n ∧ s5 = .int .i64 i ∧ Kept [] w wr) (fun s5 _ => n - (intOf s5).toNat)
 case atStart => exact ⟨0, Nat.zero_le _, rfl, Kept.refl _ _⟩
 case round =>
 obtain ⟨i, hi, rfl, hkr⟩ := hrel
 by_cases hlt : i < n
 case neg =>
   obtain rfl : i = n := by omega
   go_wp2_with fail
   go_ret
   exact ⟨rfl, hkr.toBelow⟩
 obtain ⟨b1, o1, rfl, hl1, hc1⟩ := (HA.out.later hkr.toBelow).mem (by omega)
 obtain ⟨b2, o2, rfl, hl2, hc2⟩ := (HB.out.later hkr.toBelow).mem (by omega)
 obtain ⟨E, ne, ce, T, nt, ct, c0, c1, c2, hx, hy⟩ := hc1 i hlt
 obtain ⟨E', ne', ce', T', nt', ct', d0, d1, d2, hx', hy'⟩ := hc2 i hlt
 obtain rfl : ne = ne' := hx.1.symm.trans hx'.1
 obtain rfl : nt = nt' := hy.1.symm.trans hy'.1
 have hnl := HL.out i hlt
 rw [hx.1, hy.1] at hnl
 obtain ⟨hne, hnt⟩ := hnl
 obtain ⟨u, hu⟩ : ∃ u, gS L i = u := ⟨_, rfl⟩
 rw [hu] at c0 d0 hx hy hx' hy'
 obtain ⟨uf, ux, uy⟩ := u
 have HX1 := Lib.hid hx
 have HX2 := Lib.hid hx'
 have HY1 := Lib.hid hy
 have HY2 := Lib.hid hy'
 have hi9 : (i : Int) < (n : Int) := by omega
 clear hc1 hc2 hu hx hy hx' hy'
 go_upto_region 6 with fail
 refine wp_region_E 38 (fun w' => SX0 wr w') (by kernel_rfl) (by (exact kp0)) (fun hHeld => ?_)
 refine WE_tk 0 ?_
 refine WE_tk 1 ?_
 refine WE_tk 2 ?_
 refine WE_tk 3 ?_
 refine WE_tk 4 ?_
 refine WE_tk 5 ?_
 refine WE_tk 6 ?_
 refine WE_tk 7 ?_
 refine WE_tk 8 ?_
 refine WE_tk 9 ?_
 refine WE_tk 10 ?_
 refine WE_tk 11 ?_
 first | (refine WE_tu 12 ?_) | (refine WE_tk 12 ?_)
 first | (refine WE_tu 13 ?_) | (refine WE_tk 13 ?_)
 first | (refine WE_tu 14 ?_) | (refine WE_tk 14 ?_)
 first | (refine WE_tu 15 ?_) | (refine WE_tk 15 ?_)
 first | (refine WE_tu 16 ?_) | (refine WE_tk 16 ?_)
 first | (refine WE_tu 17 ?_) | (refine WE_tk 17 ?_)
 first | (refine WE_tu 18 ?_) | (refine WE_tk 18 ?_)
 first | (refine WE_tu 19 ?_) | (refine WE_tk 19 ?_)
 first | (refine WE_tu 20 ?_) | (refine WE_tk 20 ?_)
 first | (refine WE_tu 21 ?_) | (refine WE_tk 21 ?_)
 refine WE_step 22 rfl (by kernel_rfl) (fun K hK => ?_)
 go_simp
 (first | (go_at_call 32; with_reducible refine (psame_eq E E' ne ce ce' ux _ (HX1.out.later hHeld.1.toBelow) (HX2.out.later hHeld.1.toBelow) hne).mono ?_; rintro e w3 ⟨rfl, hb3⟩) | (go_at_call 32; with_reducible refine (psame_eq T T' nt ct ct' uy _ (HY1.out.later hHeld.1.toBelow) (HY2.out.later hHeld.1.toBelow) hnt).mono ?_; rintro e w4 ⟨rfl, hb4⟩))
 (try go_wp2_with fail)
 refine hK.out _ _ ?_ (fun hHeld => ?_)
 · (exact kp0)
 clear hK K
 refine WE_put ?_
 first | (refine WE_tu 23 ?_) | (refine WE_tk 23 ?_)
 refine WE_tk 24 ?_
 refine WE_tk 25 ?_
 first | (refine WE_tu 26 ?_) | (refine WE_tk 26 ?_)
 first | (refine WE_tu 27 ?_) | (refine WE_tk 27 ?_)
 first | (refine WE_tu 28 ?_) | (refine WE_tk 28 ?_)
 first | (refine WE_tu 29 ?_) | (refine WE_tk 29 ?_)
 first | (refine WE_tu 30 ?_) | (refine WE_tk 30 ?_)
 first | (refine WE_tu 31 ?_) | (refine WE_tk 31 ?_)
 first | (refine WE_tu 32 ?_) | (refine WE_tk 32 ?_)
 first | (refine WE_tu 33 ?_) | (refine WE_tk 33 ?_)
 first | (refine WE_tu 34 ?_) | (refine WE_tk 34 ?_)
 first | (refine WE_tu 35 ?_) | (refine WE_tk 35 ?_)
 refine WE_step 36 rfl (by kernel_rfl) (fun K hK => ?_)
 go_simp
 (first | (go_at_call 32; with_reducible refine (psame_eq E E' ne ce ce' ux _ (HX1.out.later hHeld.1.toBelow) (HX2.out.later hHeld.1.toBelow) hne).mono ?_; rintro e w3 ⟨rfl, hb3⟩) | (go_at_call 32; with_reducible refine (psame_eq T T' nt ct ct' uy _ (HY1.out.later hHeld.1.toBelow) (HY2.out.later hHeld.1.toBelow) hnt).mono ?_; rintro e w4 ⟨rfl, hb4⟩))
 (try go_wp2_with fail)
 refine hK.out _ _ ?_ (fun hHeld => ?_)
 · (exact kp0)
 clear hK K
 refine WE_put ?_
 first | (refine WE_tu 37 ?_) | (refine WE_tk 37 ?_)
 refine WE_last rfl (by kernel_rfl) (fun K hK => ?_)
 go_simp
 refine hK.out _ _ ?_
 clear hK K
 have hk4 : Kept [] wr w4 := hHeld.1
 go_wp2_with fail
 exact ⟨⟨i + 1, by omega, by go_num, keptTrans hkr hk4⟩, by simp [intOf]; omega⟩
end Go.Proofs.YtooejoajojanjaaGreatDoor
namespace Go.Df.If
open Go.RowKit Go.Df
theorem know_txt : txt [⟨3, [⟨0, 0⟩], []⟩] = [102, 117, 110, 99, 32, 51, 10, 101, 120, 105, 116, 32, 48, 32, 48, 10] := by
 have e3 : Lib.itoa 3 = [51] := (itoa_nat 3).trans (dec_lt (by decide))
 have e0 : Lib.itoa 0 = [48] := (itoa_nat 0).trans (dec_lt (by decide))
 simp [txt, txS, ln1, ln2, e3, e0, kwF, kwE]
theorem know_tex : texS [⟨3, [⟨0, 0⟩], []⟩] = ([102, 117, 110, 99, 32, 51, 10, 101, 120, 105, 116, 32, 48, 32, 48, 10], 0) := by
 have h : sumErr 1024 [⟨3, [⟨0, 0⟩], []⟩] = 0 := by decide
 unfold texS
 rw [h, if_neg (by decide), know_txt, if_neg (by decide)]
theorem know_par : parS [101, 120, 105, 116, 32, 48, 32, 48, 10] = ([], 1, 2) := by decide
theorem prs_blk {w : World} {b : Nat} {l : List Pr} (h : Blk w b (prC l)) : Prs w (some ⟨b, 0, none⟩) l.length l :=
 ⟨rfl, fun _ => ⟨b, 0, rfl, h.1, fun i hi => by
   rw [Nat.zero_add, h.2.1, h.2.1]
   exact prC_get hi⟩⟩
theorem prs_nil (w : World) : Prs w none 0 [] := ⟨rfl, fun h => absurd h (by omega)⟩
theorem ints_blk1 {w : World} {b : Nat} {x : Int} (h : Blk w b [.int .i64 x]) : Ints w (some ⟨b, 0, none⟩) 1 [x] :=
 ⟨rfl, fun _ => ⟨b, 0, rfl, h.1, fun i hi => by
   obtain rfl : i = 0 := by omega
   exact h.2.1 0⟩⟩
theorem know_ap : applyF [⟨0, 0⟩, ⟨1, 2⟩] [1] = [2] ∧ applyF [] [1] = [] := by decide
end Go.Df.If
namespace Go.Proofs.YtooejoajojanjaaGreatDoor
open Go.RowKit Go.Df Go.Df.If
attribute [local go_sem ↓] Go.wp_at_zero Go.wp_at_succ
def Env (w : World) : Prop := ∃ m, ∀ w', Below w.heap.size w w' → Lib.TabIs Tryz.prog w' "internal/strconv.uint64pow10" .u64 Lib.pow10Tab ∧ w'.cell? ⟨2, 0, none⟩ = some (.int .i64 m) ∧ w'.cell? ⟨0, 0, none⟩ = some (.iface 195 (.agg #[.pointer (some ⟨7, 79, none⟩)]))
theorem Env.later {w w' : World} (h : Env w) (hb : Below w.heap.size w w') : Env w' := let ⟨m, h⟩ := h; ⟨m, fun w2 h2 => h w2 (hb.trans (h2.mono hb.size))⟩
theorem Env.tabs {w : World} (h : Env w) : ∀ B w', B = w.heap.size → Below B w w' → Tabs B w' := fun B w' e hb w2 h2 => by subst e; let ⟨_, h⟩ := h; exact (h w2 (hb.trans h2)).1
theorem Env.mx {w : World} (h : Env w) : Mx w.heap.size w := let ⟨m, h⟩ := h; ⟨m, fun w2 h2 => (h w2 h2).2.1⟩
theorem Env.et {w : World} (h : Env w) : w.cell? ⟨0, 0, none⟩ = some (.iface 195 (.agg #[.pointer (some ⟨7, 79, none⟩)])) := let ⟨_, h⟩ := h; (h w (Below.refl _ _)).2.2
set_option maxRecDepth 100000 in
set_option maxHeartbeats 4000000 in
theorem knows35_any (w : World) (hE : Env w) : Calls Tryz.prog 13 #[] w fun e w' => e = .returned (.bool true) ∧ Below w.heap.size w w' := by
 have HE := Lib.hid hE
 clear hE
 go_enter Tryz.func13, Tryz.ntmps13
 go_wp2_with fail
 have B1 : Blk ((w.alloc (.cells #[.int .i64 0, .int .i64 0] 72)).alloc (.cells #[.int .i64 3, .slice (some ⟨w.heap.size, 0, none⟩) 1 1, .slice none 0 0] 30)) w.heap.size (prC [⟨0, 0⟩]) := (Blk.new w _ _ _ rfl).alloc _
 have B2 : Blk ((w.alloc (.cells #[.int .i64 0, .int .i64 0] 72)).alloc (.cells #[.int .i64 3, .slice (some ⟨w.heap.size, 0, none⟩) 1 1, .slice none 0 0] 30)) (w.heap.size + 1) [.int .i64 3, .slice (some ⟨w.heap.size, 0, none⟩) 1 1, .slice none 0 0] := Blk.new (w.alloc _) _ _ _ (by simp)
 have hk0 : Kept [] w ((w.alloc (.cells #[.int .i64 0, .int .i64 0] 72)).alloc (.cells #[.int .i64 3, .slice (some ⟨w.heap.size, 0, none⟩) 1 1, .slice none 0 0] 30)) := ((Kept.refl [] w).alloc _).alloc _
 have hSm : SmW ((w.alloc (.cells #[.int .i64 0, .int .i64 0] 72)).alloc (.cells #[.int .i64 3, .slice (some ⟨w.heap.size, 0, none⟩) 1 1, .slice none 0 0] 30)) (some ⟨w.heap.size + 1, 0, none⟩) 1 [⟨3, [⟨0, 0⟩], []⟩] :=
   ⟨rfl, fun _ => ⟨_, 0, rfl, B2.1, fun i hi => by
     obtain rfl : i = 0 := by omega
     exact ⟨some ⟨w.heap.size, 0, none⟩, 1, 1, none, 0, 0, B2.2.1 0, B2.2.1 1, B2.2.1 2, prs_blk B1, prs_nil _⟩⟩⟩
 have HT := Lib.hid (ptext_any (some ⟨w.heap.size + 1, 0, none⟩) 1 1 [⟨3, [⟨0, 0⟩], []⟩] _ hSm (by omega) (HE.out.later hk0.toBelow).tabs)
 rw [know_tex] at HT
 refine HT.out.mono ?_
 rintro e w1 ⟨rfl, hb1⟩
 have hk1 : Kept [] w w1 := hk0.call hb1
 have HE1 := Lib.hid (HE.out.later hk1.toBelow)
 clear B1 B2 hSm HT hk0 hb1
 go_wp2_with fail
 have HP := Lib.hid (pParse_any [101, 120, 105, 116, 32, 48, 32, 48, 10] w1 (by simp) HE1.out.mx HE1.out.et)
 rw [know_par] at HP
 refine HP.out.mono ?_
 rintro e w2 ⟨A2, n2, c2, rfl, -, hb2⟩
 have hk2 : Kept [] w w2 := hk1.call hb2
 clear hk1 hb2 HP HE1
 go_wp2_with fail
 have B1 : Blk ((w2.alloc (.cells #[.int .i64 0, .int .i64 0, .int .i64 1, .int .i64 2] 72)).alloc (.cells #[.int .i64 1] 3)) w2.heap.size (prC [⟨0, 0⟩, ⟨1, 2⟩]) := (Blk.new w2 _ _ _ rfl).alloc _
 have B2 : Blk ((w2.alloc (.cells #[.int .i64 0, .int .i64 0, .int .i64 1, .int .i64 2] 72)).alloc (.cells #[.int .i64 1] 3)) (w2.heap.size + 1) [.int .i64 1] := Blk.new (w2.alloc _) _ _ _ (by simp)
 have hk3 : Kept [] w ((w2.alloc (.cells #[.int .i64 0, .int .i64 0, .int .i64 1, .int .i64 2] 72)).alloc (.cells #[.int .i64 1] 3)) := (hk2.alloc _).alloc _
 have HA := Lib.hid (pap_any (some ⟨w2.heap.size, 0, none⟩) none (some ⟨w2.heap.size + 1, 0, none⟩) 2 2 0 0 1 1 0 [⟨0, 0⟩, ⟨1, 2⟩] [] [1] _ (prs_blk B1) (prs_nil _) (ints_blk1 B2) (by omega) (by omega) (by omega) (by decide) (by decide) (by decide))
 rw [know_ap.1, know_ap.2] at HA
 refine HA.out.mono ?_
 rintro e w3 ⟨A3, n3, c3, A4, n4, c4, rfl, hi3, hi4, hb3⟩
 obtain rfl : n3 = 1 := hi3.1.symm
 obtain rfl : n4 = 0 := hi4.1.symm
 obtain ⟨b, o, rfl, hl, hc⟩ := hi3.2 (by omega)
 have c0 : w3.cell? ⟨b, o, none⟩ = some (.int .i64 2) := hc 0 (by omega)
 have HK4 : Hid (Kept [] w w3) := Lib.hid (hk3.call hb3)
 clear hi3 hi4 hc B1 B2 hk2 hk3 hb3 HA HE
 go_wp2_with fail
 go_ret
 exact ⟨rfl, HK4.out.toBelow⟩
end Go.Proofs.YtooejoajojanjaaGreatDoor
