/- A pack of texts: Xlz Xb Xc Xd Xf Xg Xh. -/
import Derived.Test.YtffkikhknabddaaGreatProg
import Derived.Shelf.Sort.Plain
import Derived.Shelf.Slices.CompactI
import Derived.Shelf.Lays8
import Derived.Test.YtffkikhknabddaaGreatZw
import Derived.Test.YtffkikhknabddaaGreatKs
import Derived.Test.YtffkikhknabddaaGreatZf
import Derived.Test.YtffkikhknabddaaGreatZa
import Derived.Sort.OwnSortedInts
import Derived.Shelf.Slices.In.SortNone
import Derived.Shelf.Spec.SlicesGrow
import Derived.Test.YtffkikhknabddaaGreatSk
/- The layings of the shelf's contracts for slices.Sort, Compact and Grow at []int, in plain words. (Printed by genXl.py out of what the shelf's command prints.) -/
namespace Go.Proofs.YtffkikhknabddaaGreat
open Go.Shelf
def laySr : Go.Shelf.Ren := ⟨fun | 189 => 60 | 125 => 78 | 257 => 77 | 128 => 95 | 129 => 96 | 294 => 86 | 295 => 87 | 296 => 88 | 297 => 89 | 298 => 90 | 299 => 91 | 216 => 92 | 300 => 93 | 301 => 94 | 328 => 98 | 329 => 99 | 330 => 100 | 331 => 101 | 332 => 102 | 215 => 74 | 343 => 103 | n => n, fun | 28 => 30 | 3 => 3 | 46 => 117 | 0 => 0 | 51 => 148 | 53 => 150 | 4 => 4 | 183 => 140 | 182 => 139 | 131 => 145 | 5 => 5 | 9 => 9 | 218 => 154 | 222 => 158 | 228 => 160 | 229 => 132 | n => n, fun | n => n⟩
theorem layS : Go.Proofs.Lays.n189 Tryz.prog laySr := {
  mixed := by kernel_rfl
  f125 := Tryz.func78.trans (congrArg some (by kernel_rfl))
  f128 := Tryz.func95.trans (congrArg some (by kernel_rfl))
  f129 := Tryz.func96.trans (congrArg some (by kernel_rfl))
  f189 := Tryz.func60.trans (congrArg some (by kernel_rfl))
  f215 := Tryz.func74.trans (congrArg some (by kernel_rfl))
  f216 := Tryz.func92.trans (congrArg some (by kernel_rfl))
  f257 := Tryz.func77.trans (congrArg some (by kernel_rfl))
  f294 := Tryz.func86.trans (congrArg some (by kernel_rfl))
  f295 := Tryz.func87.trans (congrArg some (by kernel_rfl))
  f296 := Tryz.func88.trans (congrArg some (by kernel_rfl))
  f297 := Tryz.func89.trans (congrArg some (by kernel_rfl))
  f298 := Tryz.func90.trans (congrArg some (by kernel_rfl))
  f299 := Tryz.func91.trans (congrArg some (by kernel_rfl))
  f300 := Tryz.func93.trans (congrArg some (by kernel_rfl))
  f301 := Tryz.func94.trans (congrArg some (by kernel_rfl))
  f328 := Tryz.func98.trans (congrArg some (by kernel_rfl))
  f329 := Tryz.func99.trans (congrArg some (by kernel_rfl))
  f330 := Tryz.func100.trans (congrArg some (by kernel_rfl))
  f331 := Tryz.func101.trans (congrArg some (by kernel_rfl))
  f332 := Tryz.func102.trans (congrArg some (by kernel_rfl))
  f343 := Tryz.func103.trans (congrArg some (by kernel_rfl))
  t0 := Tryz.underlying0
  a0 := Tryz.isAgg0
  z0 := Tryz.sizeOf0
  v0 := Tryz.zeroValue0
  t3 := Tryz.underlying3
  a3 := Tryz.isAgg3
  z3 := Tryz.sizeOf3
  v3 := Tryz.zeroValue3
  t4 := Tryz.underlying4
  a4 := Tryz.isAgg4
  z4 := Tryz.sizeOf4
  v4 := Tryz.zeroValue4
  t5 := Tryz.underlying5
  a5 := Tryz.isAgg5
  z5 := Tryz.sizeOf5
  v5 := Tryz.zeroValue5
  t9 := Tryz.underlying9
  a9 := Tryz.isAgg9
  z9 := Tryz.sizeOf9
  v9 := Tryz.zeroValue9
  t28 := Tryz.underlying30
  a28 := Tryz.isAgg30
  z28 := Tryz.sizeOf30
  v28 := Tryz.zeroValue30
  t46 := Tryz.underlying117
  a46 := Tryz.isAgg117
  z46 := Tryz.sizeOf117
  v46 := Tryz.zeroValue117
  t51 := Tryz.underlying148
  a51 := Tryz.isAgg148
  z51 := Tryz.sizeOf148
  v51 := Tryz.zeroValue148
  t53 := Tryz.underlying150
  a53 := Tryz.isAgg150
  z53 := Tryz.sizeOf150
  v53 := Tryz.zeroValue150
  t131 := Tryz.underlying145
  a131 := Tryz.isAgg145
  z131 := Tryz.sizeOf145
  v131 := Tryz.zeroValue145
  t182 := Tryz.underlying139
  a182 := Tryz.isAgg139
  z182 := Tryz.sizeOf139
  v182 := Tryz.zeroValue139
  t183 := Tryz.underlying140
  a183 := Tryz.isAgg140
  z183 := Tryz.sizeOf140
  v183 := Tryz.zeroValue140
  t218 := Tryz.underlying154
  a218 := Tryz.isAgg154
  z218 := Tryz.sizeOf154
  v218 := Tryz.zeroValue154
  t222 := Tryz.underlying158
  a222 := Tryz.isAgg158
  z222 := Tryz.sizeOf158
  v222 := Tryz.zeroValue158
  t228 := Tryz.underlying160
  a228 := Tryz.isAgg160
  z228 := Tryz.sizeOf160
  v228 := Tryz.zeroValue160
  t229 := Tryz.underlying132
  a229 := Tryz.isAgg132
  z229 := Tryz.sizeOf132
  v229 := Tryz.zeroValue132 }
def layCr : Go.Shelf.Ren := ⟨fun | 20 => 61 | n => n, fun | 22 => 30 | 3 => 3 | 4 => 4 | 0 => 0 | n => n, fun | n => n⟩
theorem layC : Go.Proofs.Lays2.n20 Tryz.prog layCr := {
  mixed := by kernel_rfl
  f20 := Tryz.func61.trans (congrArg some (by kernel_rfl))
  t0 := Tryz.underlying0
  a0 := Tryz.isAgg0
  z0 := Tryz.sizeOf0
  v0 := Tryz.zeroValue0
  t3 := Tryz.underlying3
  a3 := Tryz.isAgg3
  z3 := Tryz.sizeOf3
  v3 := Tryz.zeroValue3
  t4 := Tryz.underlying4
  a4 := Tryz.isAgg4
  z4 := Tryz.sizeOf4
  v4 := Tryz.zeroValue4
  t22 := Tryz.underlying30
  a22 := Tryz.isAgg30
  z22 := Tryz.sizeOf30
  v22 := Tryz.zeroValue30
  i3 := by kernel_rfl }
def layGr : Go.Shelf.Ren := ⟨fun | 4 => 76 | n => n, fun | 22 => 30 | 25 => 3 | 3 => 3 | 4 => 4 | 9 => 9 | 20 => 20 | 0 => 0 | n => n, fun | n => n⟩
theorem layG : Go.Proofs.Lays8.n4 Tryz.prog layGr := {
  mixed := by kernel_rfl
  f4 := ⟨Tryz.f76.name, by decide, Tryz.func76.trans (congrArg some (by kernel_rfl))⟩
  t0 := Tryz.underlying0
  a0 := Tryz.isAgg0
  z0 := Tryz.sizeOf0
  v0 := Tryz.zeroValue0
  t3 := Tryz.underlying3
  a3 := Tryz.isAgg3
  z3 := Tryz.sizeOf3
  v3 := Tryz.zeroValue3
  t4 := Tryz.underlying4
  a4 := Tryz.isAgg4
  z4 := Tryz.sizeOf4
  v4 := Tryz.zeroValue4
  t9 := Tryz.underlying9
  a9 := Tryz.isAgg9
  z9 := Tryz.sizeOf9
  v9 := Tryz.zeroValue9
  t20 := Tryz.underlying20
  a20 := Tryz.isAgg20
  z20 := Tryz.sizeOf20
  v20 := Tryz.zeroValue20
  t22 := Tryz.underlying30
  a22 := Tryz.isAgg30
  z22 := Tryz.sizeOf30
  v22 := Tryz.zeroValue30 }
end Go.Proofs.YtffkikhknabddaaGreat
/- Lists of facts in memory; the contract of the reference's WithFact. (Printed by genXb.py.) -/
namespace Go.Df
open Go.RowKit
theorem ints_snoc (l : List Int) (x : Int) : l.map (Value.int .i64) ++ [.int .i64 x] = (l ++ [x]).map (Value.int .i64) := by simp
theorem Ints.ofOwn {w : World} {base : Nat} {e : TypeId} {A : Option Addr} {n c : Nat} {l : List Int} (h : w.ownsRow base e 1 (.slice A n c) n (l.map (Value.int .i64))) : Ints w A n l ∧ n ≤ c := by
  have hl : l.length = n := by simpa using h.1
  by_cases h0 : 0 < n
  · obtain ⟨g, c', hv, hb, hg, hc, -, hcell, -⟩ := own_cellsT h h0
    injection hv with e1 e2 e3
    subst e1
    subst e3
    refine ⟨⟨hl, fun _ => ⟨g, 0, rfl, hg, fun i hi => ?_⟩⟩, hc⟩
    rw [Nat.zero_add, hcell i (by omega), List.getElem?_map, List.getElem?_eq_getElem (by omega), gi_lt (by omega)]
    rfl
  · exact ⟨⟨hl, fun h => absurd h h0⟩, by omega⟩
/-- A list of facts comes back. -/
def GetF (w : World) (l : List Int) (e : Ending) (w' : World) : Prop := ∃ A n c, e = .returned (.slice A n c) ∧ Ints w' A n l ∧ n ≤ c ∧ Below w.heap.size w w'
end Go.Df
namespace Go.Proofs.YtffkikhknabddaaGreat
open Go.RowKit Go.Df Go.Df.If
attribute [local go_sem ↓] Go.wp_at_zero Go.wp_at_succ
theorem intf_info : (Tryz.prog.info? 3).map (fun i => (i.zero, i.size, i.bytes)) = some (some (.int .i64 0), 1, 8) := by kernel_rfl

set_option maxRecDepth 100000 in
set_option maxHeartbeats 8000000 in
theorem rwithf_any (A : Option Addr) (n c : Nat) (l : List Int) (x : Int) (w : World) (hp : Ints w A n l) (hn : n ≤ 100000) (hnc : n ≤ c) :
    Calls Tryz.prog 79 #[.slice A n c, .int .i64 x] w (GetF w (withF l x)) := by
  obtain ⟨i1, hj, hy0, hy1, hy2⟩ := info_parts intf_info
  have HP := Lib.hid hp
  have HL := Lib.hid hp.1
  clear hp
  go_enter Tryz.func79, Tryz.ntmps79
  go_wp2_with fail
  go_loopw [5, 6, 7] (fun s5 s6 s7 wr => ∃ (i : Nat) (B : Option Addr) (k cB : Nat) (o : List Int) (pt : Bool), i ≤ n ∧ s7 = .int .i64 i ∧ s6 = .bool pt ∧ s5 = .slice B k cB ∧ Kept [] w wr ∧ Hid (wfi x l i = (o, pt)) ∧ o.length = k ∧ k ≤ 2 * i ∧ Hid (wr.ownsRow w.heap.size 3 1 (.slice B k cB) k (o.map (Value.int .i64))) ∧ Hid (∀ j, j < i → gi l j ≠ x)) (fun _ _ s7 _ => n - (intOf s7).toNat)
  case atStart => exact ⟨0, none, 0, 0, [], false, Nat.zero_le _, rfl, rfl, rfl, Kept.refl _ _, Lib.hid rfl, rfl, by omega, Lib.hid (World.ownsRow_nil _ _ _ _), Lib.hid (fun j h => absurd h (by omega))⟩
  case round =>
  obtain ⟨i, B, k, cB, o, pt, hi', rfl, rfl, rfl, hkr, HW, hok, hki, own, HNE⟩ := hrel
  have hsr := hkr.size
  have HOK := Lib.hid hok
  have HX : Hid (∀ y ∈ (Value.slice B k cB).ownBlock.toList, w.heap.size ≤ y) := (fun y hy => own_ge own.out (by simpa using hy))
  clear hok
  by_cases hlt : i < n
  case neg =>
    obtain rfl : i = n := by omega
    have HNM : Hid (¬ x ∈ l) := Lib.hid (fun hm => by
      obtain ⟨j, hj, e⟩ := List.getElem_of_mem hm
      exact HNE.out j (by rw [← HL.out]; exact hj) (by rw [gi_lt hj]; exact e))
    have HWL : Hid (wfl x l = (o, pt)) := Lib.hid (by rw [← wfi_all (Nat.le_of_eq HL.out)]; exact HW.out)
    cases pt with
    | true =>
      have HR : Hid (withF l x = o) := Lib.hid (by unfold withF; rw [if_neg HNM.out, HWL.out, if_pos rfl])
      go_wp2_with fail
      go_ret
      obtain ⟨h1, h2⟩ := Ints.ofOwn own.out
      exact ⟨B, k, cB, rfl, by rw [HR.out]; exact h1, h2, hkr.toBelow⟩
    | false =>
      have HR : Hid (withF l x = o ++ [x]) := Lib.hid (by unfold withF; rw [if_neg HNM.out, HWL.out, if_neg (by simp)])
      have HAP := Lib.hid (ints_snoc o x)
      go_wp2_with (at_builtin; refine wpList_append_rd _ rfl _ _ 30 rfl w.heap.size 3 i1 (.int .i64 0) 1 8 Tryz.underlying30 hj hy0 hy1 hy2 rfl (by decide) (.slice B k cB) k _ rfl (own_keptT (X := []) own.out ((Kept.refl _ _).alloc _) (by simp)) (some ⟨wr.heap.size, 0, none⟩) 1 1 [.int .i64 x] rfl (Rd.new1 _ _ _ _ rfl) (fun h => by cases h) (by intro u hu; simp at hu; subst hu; rfl) (k + 1) rfl _ HAP.out (by unfold maxLen; omega) (by omega) (by simp; omega) ?_; intro A9 c9 w9 hown4 hk4 hat4; have hk5 := Lib.hid ((hkr.alloc (.cells #[.int .i64 x] 3)).next hk4 (fun y hy => Or.inr (HX.out y hy))); have HO4 := Lib.hid hown4; clear hown4 hk4 hat4)
      go_ret
      obtain ⟨h1, h2⟩ := Ints.ofOwn (l := o ++ [x]) HO4.out
      exact ⟨A9, k + 1, c9, rfl, by rw [HR.out]; exact h1, h2, hk5.out.toBelow⟩
  obtain ⟨b, o1, rfl, hl0, hc⟩ := HP.out.2 (by omega)
  have hl : b < wr.heap.size := Nat.lt_of_lt_of_le hl0 hsr
  have h1 := (hkr.cell b _ hl0 (by simp)).trans (hc i hlt)
  obtain ⟨y, en⟩ : ∃ y, gi l i = y := ⟨_, rfl⟩
  rw [en] at h1
  have HEN := Lib.hid en
  have hi9 : (i : Int) < (n : Int) := by omega
  clear hc en
  by_cases heq : y = x
  · subst heq
    have HR : Hid (withF l y = l) := Lib.hid (by
      unfold withF
      rw [if_pos (by rw [← HEN.out, gi_lt (by rw [HL.out]; exact hlt)]; exact List.getElem_mem _)])
    go_wp2_with fail
    go_ret
    exact ⟨_, n, c, rfl, by rw [HR.out]; exact HP.out.kept hkr, hnc, hkr.toBelow⟩
  have z0 : (y == x) = false := by simpa using heq
  have HNE2 : Hid (∀ j, j < i + 1 → gi l j ≠ x) := Lib.hid (fun j hj => by
    rcases Nat.lt_or_ge j i with h9 | h9
    · exact HNE.out j h9
    · have hji : j = i := by omega
      rw [hji, HEN.out]
      exact heq)
  have HWS : Hid (wfi x l (i + 1) = wfs x (o, pt) y) := Lib.hid (by rw [wfi_succ (by rw [HL.out]; exact hlt), HW.out, HEN.out])
  clear heq
  have HAP := Lib.hid (ints_snoc o y)
  cases pt with
  | true =>
    have HW2 : Hid (wfi x l (i + 1) = (o ++ [y], true)) := Lib.hid (by rw [HWS.out]; unfold wfs; rw [if_neg (by simp)])
    go_wp2_with (at_builtin; refine wpList_append_rd _ rfl _ _ 30 rfl w.heap.size 3 i1 (.int .i64 0) 1 8 Tryz.underlying30 hj hy0 hy1 hy2 rfl (by decide) (.slice B k cB) k _ rfl (own_keptT (X := []) own.out ((Kept.refl _ _).alloc _) (by simp)) (some ⟨wr.heap.size, 0, none⟩) 1 1 [.int .i64 y] rfl (Rd.new1 _ _ _ _ rfl) (fun h => by cases h) (by intro u hu; simp at hu; subst hu; rfl) (k + 1) rfl _ HAP.out (by unfold maxLen; omega) (by omega) (by simp; omega) ?_; intro A9 c9 w9 hown4 hk4 hat4; have hk5 := Lib.hid ((hkr.alloc (.cells #[.int .i64 y] 3)).next hk4 (fun y hy => Or.inr (HX.out y hy))); have HO4 := Lib.hid hown4; clear hown4 hk4 hat4)
    exact ⟨⟨i + 1, A9, k + 1, c9, o ++ [y], true, by omega, by go_num, rfl, rfl, hk5.out, HW2, by rw [List.length_append, HOK.out]; rfl, by omega, HO4, HNE2⟩, by simp [intOf]; omega⟩
  | false =>
    by_cases hxy : x < y
    · have z1 : decide (x < y) = true := by simpa using hxy
      have HW2 : Hid (wfi x l (i + 1) = (o ++ [x] ++ [y], true)) := Lib.hid (by rw [HWS.out]; unfold wfs; rw [if_pos ⟨rfl, hxy⟩])
      have HAPx := Lib.hid (ints_snoc o x)
      have HAPy := Lib.hid (ints_snoc (o ++ [x]) y)
      clear hxy
      go_upto_region 10 with (at_builtin; refine wpList_append_rd _ rfl _ _ 30 rfl w.heap.size 3 i1 (.int .i64 0) 1 8 Tryz.underlying30 hj hy0 hy1 hy2 rfl (by decide) (.slice B k cB) k _ rfl (own_keptT (X := []) own.out ((Kept.refl _ _).alloc _) (by simp)) (some ⟨wr.heap.size, 0, none⟩) 1 1 [.int .i64 x] rfl (Rd.new1 _ _ _ _ rfl) (fun h => by cases h) (by intro u hu; simp at hu; subst hu; rfl) (k + 1) rfl _ HAPx.out (by unfold maxLen; omega) (by omega) (by simp; omega) ?_; intro A8 c8 w8 hown4 hk4 hat4; have hk8 := Lib.hid ((hkr.alloc (.cells #[.int .i64 x] 3)).next hk4 (fun y hy => Or.inr (HX.out y hy))); have HO8 := Lib.hid hown4; clear hown4 hk4 hat4)
      have HX8 : Hid (∀ y ∈ (Value.slice A8 (k + 1) c8).ownBlock.toList, w.heap.size ≤ y) := (fun y hy => own_ge HO8.out (by simpa using hy))
      have hs8 := hk8.out.size
      have hl8 : b < w8.heap.size := Nat.lt_of_lt_of_le hl0 hs8
      have h18 := (hk8.out.cell b _ hl0 (by simp)).trans ((hkr.cell b _ hl0 (by simp)).symm.trans h1)
      go_wp2_with (at_builtin; refine wpList_append_rd _ rfl _ _ 30 rfl w.heap.size 3 i1 (.int .i64 0) 1 8 Tryz.underlying30 hj hy0 hy1 hy2 rfl (by decide) (.slice A8 (k + 1) c8) (k + 1) _ rfl (own_keptT (X := []) HO8.out ((Kept.refl _ _).alloc _) (by simp)) (some ⟨w8.heap.size, 0, none⟩) 1 1 [.int .i64 y] rfl (Rd.new1 _ _ _ _ rfl) (fun h => by cases h) (by intro u hu; simp at hu; subst hu; rfl) ((k + 1) + 1) rfl _ HAPy.out (by unfold maxLen; omega) (by omega) (by simp; omega) ?_; intro A9 c9 w9 hown4 hk4 hat4; have hk5 := Lib.hid ((hk8.out.alloc (.cells #[.int .i64 y] 3)).next hk4 (fun y hy => Or.inr (HX8.out y hy))); have HO4 := Lib.hid hown4; clear hown4 hk4 hat4)
      exact ⟨⟨i + 1, A9, k + 1 + 1, c9, o ++ [x] ++ [y], true, by omega, by go_num, rfl, rfl, hk5.out, HW2, by rw [List.length_append, List.length_append, HOK.out]; rfl, by omega, HO4, HNE2⟩, by simp [intOf]; omega⟩
    · have z1 : decide (x < y) = false := by simpa using hxy
      have HW2 : Hid (wfi x l (i + 1) = (o ++ [y], false)) := Lib.hid (by rw [HWS.out]; unfold wfs; rw [if_neg (by simp [hxy])])
      clear hxy
      go_wp2_with (at_builtin; refine wpList_append_rd _ rfl _ _ 30 rfl w.heap.size 3 i1 (.int .i64 0) 1 8 Tryz.underlying30 hj hy0 hy1 hy2 rfl (by decide) (.slice B k cB) k _ rfl (own_keptT (X := []) own.out ((Kept.refl _ _).alloc _) (by simp)) (some ⟨wr.heap.size, 0, none⟩) 1 1 [.int .i64 y] rfl (Rd.new1 _ _ _ _ rfl) (fun h => by cases h) (by intro u hu; simp at hu; subst hu; rfl) (k + 1) rfl _ HAP.out (by unfold maxLen; omega) (by omega) (by simp; omega) ?_; intro A9 c9 w9 hown4 hk4 hat4; have hk5 := Lib.hid ((hkr.alloc (.cells #[.int .i64 y] 3)).next hk4 (fun y hy => Or.inr (HX.out y hy))); have HO4 := Lib.hid hown4; clear hown4 hk4 hat4)
      exact ⟨⟨i + 1, A9, k + 1, c9, o ++ [y], false, by omega, by go_num, rfl, rfl, hk5.out, HW2, by rw [List.length_append, HOK.out]; rfl, by omega, HO4, HNE2⟩, by simp [intOf]; omega⟩
end Go.Proofs.YtffkikhknabddaaGreat
/- The contracts of the reference's join, seedsAt and Apply. (Printed by genXc.py.) -/
namespace Go.Proofs.YtffkikhknabddaaGreat
open Go.RowKit Go.Df Go.Df.If
attribute [local go_sem ↓] Go.wp_at_zero Go.wp_at_succ

set_option maxRecDepth 100000 in
set_option maxHeartbeats 4000000 in
theorem rjoin_any (A B : Option Addr) (n c m d : Nat) (la lb : List Int) (w : World) (hA : Ints w A n la) (hB : Ints w B m lb) (hn : n ≤ 10000) (hm : m ≤ 10000) :
    Calls Tryz.prog 62 #[.slice A n c, .slice B m d] w (GetF w (joinF la lb)) := by
  have HF := Lib.hid hA
  have HG := Lib.hid hB
  have HLF := Lib.hid hA.1
  have HLG := Lib.hid hB.1
  clear hA hB
  go_enter Tryz.func62, Tryz.ntmps62
  go_wp2_with fail
  go_loopw [5, 6] (fun s5 s6 wr => ∃ (i : Nat) (Q : Option Addr) (k cQ : Nat), i ≤ n ∧ s6 = .int .i64 i ∧ s5 = .slice Q k cQ ∧ Kept [] w wr ∧ Hid (Ints wr Q k (foF la [] i)) ∧ k ≤ cQ ∧ k ≤ i) (fun _ s6 _ => n - (intOf s6).toNat)
  case atStart => exact ⟨0, none, 0, 0, Nat.zero_le _, rfl, rfl, Kept.refl _ _, Lib.hid (Ints.empty _ _), by omega, by omega⟩
  case round =>
  obtain ⟨i, Q, k, cQ, hi, rfl, rfl, hkr, HQ, hkc, hki⟩ := hrel
  by_cases hlt : i < n
  · obtain ⟨b, o, rfl, hl, hc⟩ := HF.out.2 (by omega)
    have h1 := (hkr.cell b _ hl (by simp)).trans (hc i hlt)
    obtain ⟨y, en⟩ : ∃ y, gi la i = y := ⟨_, rfl⟩
    rw [en] at h1
    have hlr : b < wr.heap.size := Nat.lt_of_lt_of_le hl hkr.size
    have HS : Hid (foF la [] (i + 1) = withF (foF la [] i) y) := Lib.hid (by rw [foF_succ (by rw [HLF.out]; exact hlt), en])
    have hi9 : (i : Int) < (n : Int) := by omega
    clear hc en
    go_wp2_with (go_at_call 79; refine (rwithf_any Q k cQ _ y _ HQ.out (by omega) hkc).mono ?_; rintro e w3 ⟨Q3, k3, c3, rfl, hq3, hk3, hb3⟩)
    have hlen : k3 ≤ i + 1 := by
      have h7 := foF_len la [] (i + 1)
      rw [HS.out, hq3.1] at h7
      simpa using h7
    exact ⟨⟨i + 1, Q3, k3, c3, by omega, by go_num, rfl, hkr.call hb3, Lib.hid (by rw [HS.out]; exact hq3), hk3, hlen⟩, by simp [intOf]; omega⟩
  obtain rfl : i = n := by omega
  have HU : Hid (foF la [] i = la.foldl withF []) := Lib.hid (foF_all (Nat.le_of_eq HLF.out))
  obtain ⟨s, hs⟩ : ∃ s, la.foldl withF [] = s := ⟨_, rfl⟩
  rw [HU.out, hs] at HQ
  have HSS := Lib.hid hs
  clear hs hlt
  go_wp2_with fail
  go_loopw [5, 7] (fun s5 s7 wz => ∃ (j : Nat) (Q' : Option Addr) (k' cQ' : Nat), j ≤ m ∧ s7 = .int .i64 j ∧ s5 = .slice Q' k' cQ' ∧ Kept [] w wz ∧ Hid (Ints wz Q' k' (foF lb s j)) ∧ k' ≤ cQ' ∧ k' ≤ i + j) (fun _ s7 _ => m - (intOf s7).toNat)
  case atStart => exact ⟨0, Q, k, cQ, Nat.zero_le _, rfl, rfl, hkr, HQ, hkc, by omega⟩
  case round =>
  rename World => wz
  obtain ⟨j, Q', k', cQ', hj, rfl, rfl, hkz, HQ', hkc', hkj⟩ := hrel
  by_cases hlt : j < m
  · obtain ⟨b, o, rfl, hl, hc⟩ := HG.out.2 (by omega)
    have h1 := (hkz.cell b _ hl (by simp)).trans (hc j hlt)
    obtain ⟨y, en⟩ : ∃ y, gi lb j = y := ⟨_, rfl⟩
    rw [en] at h1
    have hlr : b < wz.heap.size := Nat.lt_of_lt_of_le hl hkz.size
    have HS : Hid (foF lb s (j + 1) = withF (foF lb s j) y) := Lib.hid (by rw [foF_succ (by rw [HLG.out]; exact hlt), en])
    have hj9 : (j : Int) < (m : Int) := by omega
    have hsl : s.length = k := HQ.out.1
    have HSL := Lib.hid hsl
    clear hc en hsl
    go_wp2_with (go_at_call 79; refine (rwithf_any Q' k' cQ' _ y _ HQ'.out (by omega) hkc').mono ?_; rintro e w3 ⟨Q3, k3, c3, rfl, hq3, hk3, hb3⟩)
    have hlen : k3 ≤ i + (j + 1) := by
      have h7 := foF_len lb s (j + 1)
      rw [HS.out, hq3.1, HSL.out] at h7
      omega
    exact ⟨⟨j + 1, Q3, k3, c3, by omega, by go_num, rfl, hkz.call hb3, Lib.hid (by rw [HS.out]; exact hq3), hk3, hlen⟩, by simp [intOf]; omega⟩
  obtain rfl : j = m := by omega
  have HE : Hid (foF lb s j = joinF la lb) := Lib.hid (by rw [foF_all (Nat.le_of_eq HLG.out)]; unfold joinF ascF; rw [List.foldl_append, HSS.out])
  go_wp2_with fail
  go_ret
  exact ⟨Q', k', cQ', rfl, by rw [← HE.out]; exact HQ'.out, hkc', hkz.toBelow⟩

set_option maxRecDepth 100000 in
set_option maxHeartbeats 4000000 in
theorem rseedsat_any (A1 A2 A3 A4 : Option Addr) (n1 c1 n2 c2 n3 c3 n4 c4 : Nat) (mn FF nd : Int) (sd : List Sd) (w : World) (hs : Sds w A4 n4 sd) (hn4 : n4 ≤ 1000000) :
    Calls Tryz.prog 35 #[.agg #[.slice A1 n1 c1, .slice A2 n2 c2, .int .i64 mn, .int .i64 FF, .slice A3 n3 c3, .slice A4 n4 c4], .int .i64 nd] w (GetF w (seedF sd nd)) := by
  obtain ⟨i1, hj, hy0, hy1, hy2⟩ := info_parts intf_info
  have HP := Lib.hid hs
  have HL := Lib.hid hs.1
  clear hs
  go_enter Tryz.func35, Tryz.ntmps35
  go_upto_region 1 with fail
  refine wp_named (fun W => ∃ b0, w.heap.size = b0 ∧ Blk W b0 [.slice A1 n1 c1, .slice A2 n2 c2, .int .i64 mn, .int .i64 FF, .slice A3 n3 c3, .slice A4 n4 c4] ∧ Below w.heap.size w W) ⟨_, rfl, ?_, ?_⟩ ?_
  · exact Blk.new _ _ _ _ (by first | rfl | simp)
  · go_grown
  rintro W ⟨b0, e0, B0, hB⟩
  rw [e0]
  have G0 : w.heap.size ≤ b0 := by omega
  clear e0
  have ⟨L0, C0, F0⟩ := B0
  have hkW : Kept [] w W := (Kept.refl _ _).call hB
  go_wp2_with fail
  go_loopw [5, 6] (fun s5 s6 wr => ∃ (i : Nat) (B : Option Addr) (k cB : Nat), i ≤ n4 ∧ s6 = .int .i64 i ∧ s5 = .slice B k cB ∧ Kept [] W wr ∧ (seedI sd nd i).length = k ∧ k ≤ i ∧ Hid (wr.ownsRow W.heap.size 3 1 (.slice B k cB) k ((seedI sd nd i).map (Value.int .i64)))) (fun _ s6 _ => n4 - (intOf s6).toNat)
  case atStart => exact ⟨0, none, 0, 0, Nat.zero_le _, rfl, rfl, Kept.refl _ _, rfl, by omega, Lib.hid (World.ownsRow_nil _ _ _ _)⟩
  case round =>
  clear C0 F0
  obtain ⟨i, B, k, cB, hi, rfl, rfl, hkr, hok, hki, own⟩ := hrel
  have ⟨L0r, C0r, F0r⟩ := hkr.blk (by simp) B0
  have hkwr : Kept [] w wr := keptTrans hkW hkr
  have hsr := hkr.size
  have HOK := Lib.hid hok
  have HX : Hid (∀ y ∈ (Value.slice B k cB).ownBlock.toList, W.heap.size ≤ y) := (fun y hy => own_ge own.out (by simpa using hy))
  clear hok
  by_cases hlt : i < n4
  case neg =>
    obtain rfl : i = n4 := by omega
    go_wp2_with fail
    go_ret
    obtain ⟨h1, h2⟩ := Ints.ofOwn own.out
    exact ⟨B, k, cB, rfl, by rw [← seedI_all (Nat.le_of_eq HL.out)]; exact h1, h2, hkwr.toBelow⟩
  obtain ⟨b, o1, rfl, hl0, hc⟩ := HP.out.2 (by omega)
  have hl : b < wr.heap.size := Nat.lt_of_lt_of_le hl0 hkwr.size
  have h1 := (hkwr.cell b _ hl0 (by simp)).trans (hc i hlt).1
  have h2 := (hkwr.cell b _ hl0 (by simp)).trans (hc i hlt).2
  obtain ⟨sn, sf, en⟩ : ∃ sn sf, gd sd i = ⟨sn, sf⟩ := ⟨_, _, rfl⟩
  rw [en] at h1 h2
  have hi9 : (i : Int) < (n4 : Int) := by omega
  have HS : Hid (seedI sd nd (i + 1) = seedI sd nd i ++ (if sn = nd then [sf] else [])) := Lib.hid (by rw [seedI_succ (by rw [HL.out]; exact hlt), en])
  clear hc en
  by_cases heq : sn = nd
  · have z0 : (sn == nd) = true := by simpa using heq
    have HS2 : Hid (seedI sd nd (i + 1) = seedI sd nd i ++ [sf]) := Lib.hid (by rw [HS.out, if_pos heq])
    have HAP := Lib.hid (ints_snoc (seedI sd nd i) sf)
    clear heq
    go_wp2_with (at_builtin; refine wpList_append_rd _ rfl _ _ 30 rfl W.heap.size 3 i1 (.int .i64 0) 1 8 Tryz.underlying30 hj hy0 hy1 hy2 rfl (by decide) (.slice B k cB) k _ rfl (own_keptT (X := []) own.out ((Kept.refl _ _).alloc _) (by simp)) (some ⟨wr.heap.size, 0, none⟩) 1 1 [.int .i64 sf] rfl (Rd.new1 _ _ _ _ rfl) (fun h => by cases h) (by intro u hu; simp at hu; subst hu; rfl) (k + 1) rfl _ HAP.out (by unfold maxLen; omega) (by omega) (by simp; omega) ?_; intro A9 c9 w9 hown4 hk4 hat4; have hk5 := Lib.hid ((hkr.alloc (.cells #[.int .i64 sf] 3)).next hk4 (fun y hy => Or.inr (HX.out y hy))); have HO4 := Lib.hid hown4; clear hown4 hk4 hat4)
    exact ⟨⟨i + 1, A9, k + 1, c9, by omega, by go_num, rfl, hk5.out, by rw [HS2.out, List.length_append, HOK.out]; rfl, by omega, by rw [HS2.out]; exact HO4⟩, by simp [intOf]; omega⟩
  · have z0 : (sn == nd) = false := by simpa using heq
    have HS2 : Hid (seedI sd nd (i + 1) = seedI sd nd i) := Lib.hid (by rw [HS.out, if_neg heq, List.append_nil])
    clear heq
    go_wp2_with fail
    exact ⟨⟨i + 1, B, k, cB, by omega, by go_num, rfl, hkr, by rw [HS2.out, HOK.out], by omega, by rw [HS2.out]; exact own⟩, by simp [intOf]; omega⟩

set_option maxRecDepth 100000 in
set_option maxHeartbeats 4000000 in
theorem rapply_any (A B : Option Addr) (n c m d : Nat) (f : List Pr) (l : List Int) (w : World) (hf : Prs w A n f) (hB : Ints w B m l) (hn : n ≤ 10000) (hm : m ≤ 100000) :
    Calls Tryz.prog 63 #[.slice A n c, .slice B m d] w (GetF w (applyF f l)) := by
  have HF := Lib.hid hf
  have HG := Lib.hid hB
  have HLF := Lib.hid hf.1
  clear hf hB
  go_enter Tryz.func63, Tryz.ntmps63
  go_wp2_with fail
  go_loopw [5, 6] (fun s5 s6 wr => ∃ (i : Nat) (Q : Option Addr) (k cQ : Nat), i ≤ n ∧ s6 = .int .i64 i ∧ s5 = .slice Q k cQ ∧ Kept [] w wr ∧ Hid (Ints wr Q k (ascF (apI f l i))) ∧ k ≤ cQ ∧ k ≤ i) (fun _ s6 _ => n - (intOf s6).toNat)
  case atStart => exact ⟨0, none, 0, 0, Nat.zero_le _, rfl, rfl, Kept.refl _ _, Lib.hid (Ints.empty _ _), by omega, by omega⟩
  case round =>
  obtain ⟨i, Q, k, cQ, hi, rfl, rfl, hkr, HQ, hkc, hki⟩ := hrel
  by_cases hlt : i < n
  case neg =>
    obtain rfl : i = n := by omega
    have HU : Hid (ascF (apI f l i) = applyF f l) := Lib.hid (by rw [apI_all (Nat.le_of_eq HLF.out)]; rfl)
    go_wp2_with fail
    go_ret
    exact ⟨Q, k, cQ, rfl, by rw [← HU.out]; exact HQ.out, hkc, hkr.toBelow⟩
  obtain ⟨b, o, rfl, hl, hc⟩ := HF.out.2 (by omega)
  have h1 := (hkr.cell b _ hl (by simp)).trans (hc i hlt).1
  have h2 := (hkr.cell b _ hl (by simp)).trans (hc i hlt).2
  obtain ⟨yi, yo, en⟩ : ∃ yi yo, gp f i = ⟨yi, yo⟩ := ⟨_, _, rfl⟩
  rw [en] at h1 h2
  have hlr : b < wr.heap.size := Nat.lt_of_lt_of_le hl hkr.size
  have hi9 : (i : Int) < (n : Int) := by omega
  have HS : Hid (apI f l (i + 1) = apI f l i ++ (if yo ≠ 0 ∧ (yi = 0 ∨ yi ∈ l) then [yo] else [])) := Lib.hid (by rw [apI_succ (by rw [HLF.out]; exact hlt), en])
  clear hc en
  by_cases q0 : yo = 0
  · have z0 : (yo != 0) = false := by simp [q0]
    have HS2 : Hid (apI f l (i + 1) = apI f l i) := Lib.hid (by rw [HS.out, if_neg (fun h => h.1 q0), List.append_nil])
    clear q0
    go_wp2_with fail
    exact ⟨⟨i + 1, Q, k, cQ, by omega, by go_num, rfl, hkr, Lib.hid (by rw [HS2.out]; exact HQ.out), hkc, by omega⟩, by simp [intOf]; omega⟩
  have z0 : (yo != 0) = true := by simpa using q0
  by_cases q1 : yi = 0
  · have z1 : (yi == 0) = true := by simp [q1]
    have HS2 : Hid (ascF (apI f l (i + 1)) = withF (ascF (apI f l i)) yo) := Lib.hid (by rw [HS.out, if_pos ⟨q0, Or.inl q1⟩]; unfold ascF; rw [List.foldl_append]; rfl)
    have HLN : Hid ((apI f l (i + 1)).length ≤ i + 1) := Lib.hid (apI_len f l (i + 1))
    clear q0 q1
    go_wp2_with (go_at_call 79; refine (rwithf_any Q k cQ _ yo _ HQ.out (by omega) hkc).mono ?_; rintro e w3 ⟨Q3, k3, c3, rfl, hq3, hk3, hb3⟩)
    have hlen : k3 ≤ i + 1 := by
      have h7 := ascF_len (apI f l (i + 1))
      rw [HS2.out, hq3.1] at h7
      exact Nat.le_trans h7 HLN.out
    exact ⟨⟨i + 1, Q3, k3, c3, by omega, by go_num, rfl, hkr.call hb3, Lib.hid (by rw [HS2.out]; exact hq3), hk3, hlen⟩, by simp [intOf]; omega⟩
  have z1 : (yi == 0) = false := by simpa using q1
  by_cases q2 : yi ∈ l
  · have z2 : decide (yi ∈ l) = true := decide_eq_true q2
    have HZ := Lib.hid z2
    have HS2 : Hid (ascF (apI f l (i + 1)) = withF (ascF (apI f l i)) yo) := Lib.hid (by rw [HS.out, if_pos ⟨q0, Or.inr q2⟩]; unfold ascF; rw [List.foldl_append]; rfl)
    have HLN : Hid ((apI f l (i + 1)).length ≤ i + 1) := Lib.hid (apI_len f l (i + 1))
    clear q0 q1 q2 z2
    go_wp2_with (first
      | (go_at_call 26; refine (rhas_any B m d l yi _ (HG.out.kept hkr) (by omega)).mono ?_; rw [HZ.out]; rintro e w3 ⟨rfl, rfl⟩)
      | (go_at_call 79; refine (rwithf_any Q k cQ _ yo _ HQ.out (by omega) hkc).mono ?_; rintro e w3 ⟨Q3, k3, c3, rfl, hq3, hk3, hb3⟩))
    have hlen : k3 ≤ i + 1 := by
      have h7 := ascF_len (apI f l (i + 1))
      rw [HS2.out, hq3.1] at h7
      exact Nat.le_trans h7 HLN.out
    exact ⟨⟨i + 1, Q3, k3, c3, by omega, by go_num, rfl, hkr.call hb3, Lib.hid (by rw [HS2.out]; exact hq3), hk3, hlen⟩, by simp [intOf]; omega⟩
  · have z2 : decide (yi ∈ l) = false := decide_eq_false q2
    have HZ := Lib.hid z2
    have HS2 : Hid (apI f l (i + 1) = apI f l i) := Lib.hid (by rw [HS.out, if_neg (fun h => h.2.elim q1 q2), List.append_nil])
    clear q0 q1 q2 z2
    go_wp2_with (go_at_call 26; refine (rhas_any B m d l yi _ (HG.out.kept hkr) (by omega)).mono ?_; rw [HZ.out]; rintro e w3 ⟨rfl, rfl⟩)
    exact ⟨⟨i + 1, Q, k, cQ, by omega, by go_num, rfl, hkr, Lib.hid (by rw [HS2.out]; exact HQ.out), hkc, by omega⟩, by simp [intOf]; omega⟩
end Go.Proofs.YtffkikhknabddaaGreat
/- The contracts of slices.Index and Contains, of the program's sort.Search and seedsAt. (Printed by genXd.py.) -/
namespace Go.Proofs.YtffkikhknabddaaGreat
open Go.RowKit Go.Df Go.Df.If
attribute [local go_sem ↓] Go.wp_at_zero Go.wp_at_succ

set_option maxRecDepth 100000 in
set_option maxHeartbeats 1000000 in
theorem index_any (A : Option Addr) (n c : Nat) (l : List Int) (x : Int) (w : World) (hr : Ints w A n l) (hn : n ≤ 9223372036854775807) :
    Calls Tryz.prog 38 #[.slice A n c, .int .i64 x] w fun e w' => (∃ r : Int, e = .returned (.int .i64 r) ∧ decide (0 ≤ r) = decide (x ∈ l)) ∧ w = w' := by
  have HR := Lib.hid hr
  have HL := Lib.hid hr.1
  clear hr
  go_enter Tryz.func38, Tryz.ntmps38
  go_wp2_with fail
  go_loopw [8] (fun i wr => ∃ k : Nat, k ≤ n ∧ i = .int .i64 k ∧ w = wr ∧ Hid (∀ j, j < k → gi l j ≠ x)) (fun i _ => n - (intOf i).toNat)
  case atStart => exact ⟨0, Nat.zero_le _, rfl, rfl, Lib.hid (fun j hj => absurd hj (by omega))⟩
  case round =>
    obtain ⟨k, hk, rfl, rfl, hj⟩ := hrel
    by_cases hlt : k < n
    · obtain ⟨b, o, rfl, hl, hc⟩ := HR.out.2 (by omega)
      have hcell := hc k hlt
      have hk1 : (k : Int) < (n : Int) := by omega
      obtain ⟨y, hy⟩ : ∃ y, gi l k = y := ⟨_, rfl⟩
      rw [hy] at hcell
      have HY := Lib.hid hy
      clear hc hy
      by_cases he : x = y
      · have z : (x == y) = true := by simpa using he
        have HM : Hid (decide (x ∈ l) = true) := Lib.hid (decide_eq_true (by rw [he, ← HY.out, gi_lt (by rw [HL.out]; exact hlt)]; exact List.getElem_mem _))
        clear he
        go_wp2_with fail
        go_ret
        exact ⟨⟨_, rfl, by rw [HM.out]; exact decide_eq_true (by omega)⟩, rfl⟩
      · have z : (x == y) = false := by simpa using he
        have HN : Hid (∀ j, j < k + 1 → gi l j ≠ x) := Lib.hid (fun j h => by
          rcases Nat.lt_or_ge j k with h9 | h9
          · exact hj.out j h9
          · obtain rfl : j = k := by omega
            rw [HY.out]
            exact fun h => he h.symm)
        clear he
        go_wp2_with fail
        exact ⟨⟨k + 1, by omega, by go_num, by first | rfl | trivial, HN⟩, by simp [intOf]; omega⟩
    · obtain rfl : k = n := by omega
      have HM : Hid (decide (x ∈ l) = false) := Lib.hid (decide_eq_false (fun hm => by
        obtain ⟨j, hj2, e⟩ := List.getElem_of_mem hm
        exact hj.out j (by rw [← HL.out]; exact hj2) (by rw [gi_lt hj2]; exact e)))
      go_wp2_with fail
      go_ret
      exact ⟨⟨_, rfl, by rw [HM.out]; decide⟩, rfl⟩

set_option maxRecDepth 100000 in
set_option maxHeartbeats 1000000 in
theorem contains_any (A : Option Addr) (n c : Nat) (l : List Int) (x : Int) (w : World) (hr : Ints w A n l) (hn : n ≤ 9223372036854775807) :
    Calls Tryz.prog 19 #[.slice A n c, .int .i64 x] w fun e w' => e = .returned (.bool (decide (x ∈ l))) ∧ w = w' := by
  go_enter Tryz.func19, Tryz.ntmps19
  go_wp2_with (go_at_call 38; refine (index_any A n c l x _ hr hn).mono ?_; rintro e w1 ⟨⟨r, rfl, hd⟩, rfl⟩)
  go_ret
  exact ⟨by rw [← hd]; rfl, rfl⟩

set_option maxRecDepth 100000 in
set_option maxHeartbeats 4000000 in
theorem indexp_any (A : Option Addr) (n c : Nat) (l : List Pr) (xi xo : Int) (w : World) (hr : Prs w A n l) (hn : n ≤ 9223372036854775807) :
    Calls Tryz.prog 41 #[.slice A n c, .agg #[.int .i64 xi, .int .i64 xo]] w fun e w' => (∃ r : Int, e = .returned (.int .i64 r) ∧ decide (0 ≤ r) = decide ((⟨xi, xo⟩ : Pr) ∈ l)) ∧ Below w.heap.size w w' := by
  have HR := Lib.hid hr
  have HL := Lib.hid hr.1
  clear hr
  go_enter Tryz.func41, Tryz.ntmps41
  go_upto_region 1 with fail
  refine wp_named (fun W => ∃ b0, w.heap.size = b0 ∧ Blk W b0 [.int .i64 xi, .int .i64 xo] ∧ Below w.heap.size w W) ⟨_, rfl, ?_, ?_⟩ ?_
  · exact Blk.new _ _ _ _ (by first | rfl | simp)
  · go_grown
  rintro W ⟨b0, e0, B0, hB⟩
  rw [e0]
  have G0 : w.heap.size ≤ b0 := by omega
  clear e0
  have ⟨L0, C0, F0⟩ := B0
  have hkW : Kept [] w W := (Kept.refl _ _).call hB
  go_wp2_with fail
  go_loopw [8] (fun i wr => ∃ k : Nat, k ≤ n ∧ i = .int .i64 k ∧ Kept [] W wr ∧ Hid (∀ j, j < k → gp l j ≠ ⟨xi, xo⟩)) (fun i _ => n - (intOf i).toNat)
  case atStart => exact ⟨0, Nat.zero_le _, rfl, Kept.refl _ _, Lib.hid (fun j hj => absurd hj (by omega))⟩
  case round =>
    clear C0 F0
    obtain ⟨k, hk, rfl, hkr, hj⟩ := hrel
    have ⟨L0r, C0r, F0r⟩ := hkr.blk (by simp) B0
    have hkwr : Kept [] w wr := keptTrans hkW hkr
    by_cases hlt : k < n
    · obtain ⟨b, o, rfl, hl0, hc⟩ := HR.out.2 (by omega)
      have hl : b < wr.heap.size := Nat.lt_of_lt_of_le hl0 hkwr.size
      have h1 := (hkwr.cell b _ hl0 (by simp)).trans (hc k hlt).1
      have h2 := (hkwr.cell b _ hl0 (by simp)).trans (hc k hlt).2
      have hk1 : (k : Int) < (n : Int) := by omega
      obtain ⟨yi, yo, hy⟩ : ∃ yi yo, gp l k = ⟨yi, yo⟩ := ⟨_, _, rfl⟩
      rw [hy] at h1 h2
      have HY := Lib.hid hy
      clear hc hy
      by_cases he : xi = yi ∧ xo = yo
      · obtain ⟨rfl, rfl⟩ := he
        have HM : Hid (decide ((⟨xi, xo⟩ : Pr) ∈ l) = true) := Lib.hid (decide_eq_true (by rw [← HY.out]; exact gp_mem (by rw [HL.out]; exact hlt)))
        go_upto_region 4 with fail
        go_quiet (fail)
        go_wp2_with fail
        go_ret
        exact ⟨⟨_, rfl, by have h9 := of_decide_eq_true HM.out; first | exact ⟨fun _ => h9, fun _ => by omega⟩ | (rw [HM.out]; exact decide_eq_true (by omega))⟩, (hkwr.drewN _).toBelow⟩
      · have HN : Hid (∀ j, j < k + 1 → gp l j ≠ ⟨xi, xo⟩) := Lib.hid (fun j h => by
          rcases Nat.lt_or_ge j k with h9 | h9
          · exact hj.out j h9
          · obtain rfl : j = k := by omega
            rw [HY.out]
            intro h
            injection h with h7 h6
            exact he ⟨h7.symm, h6.symm⟩)
        by_cases e1 : xi = yi
        · have e2 : ¬ xo = yo := fun h => he ⟨e1, h⟩
          have z1 : (xi == yi) = true := by simpa using e1
          have z2 : (xo == yo) = false := by simpa using e2
          clear e1 e2 he
          go_upto_region 4 with fail
          go_quiet (fail)
          go_wp2_with fail
          exact ⟨⟨k + 1, by omega, by go_num, hkr.drewN _, HN⟩, by simp [intOf]; omega⟩
        · have z1 : (xi == yi) = false := by simpa using e1
          clear e1 he
          go_upto_region 4 with fail
          go_quiet (fail)
          go_wp2_with fail
          exact ⟨⟨k + 1, by omega, by go_num, hkr.drewN _, HN⟩, by simp [intOf]; omega⟩
    · obtain rfl : k = n := by omega
      have HM : Hid (decide ((⟨xi, xo⟩ : Pr) ∈ l) = false) := Lib.hid (decide_eq_false (fun hm => by
        obtain ⟨j, hj2, e⟩ := mem_gp hm
        exact hj.out j (by rw [← HL.out]; exact hj2) e))
      go_wp2_with fail
      go_ret
      exact ⟨⟨_, rfl, by rw [HM.out]; decide⟩, hkwr.toBelow⟩

set_option maxRecDepth 100000 in
set_option maxHeartbeats 1000000 in
theorem containsp_any (A : Option Addr) (n c : Nat) (l : List Pr) (xi xo : Int) (w : World) (hr : Prs w A n l) (hn : n ≤ 9223372036854775807) :
    Calls Tryz.prog 21 #[.slice A n c, .agg #[.int .i64 xi, .int .i64 xo]] w fun e w' => e = .returned (.bool (decide ((⟨xi, xo⟩ : Pr) ∈ l))) ∧ Below w.heap.size w w' := by
  go_enter Tryz.func21, Tryz.ntmps21
  go_upto_region 1 with fail
  refine wp_named (fun W => ∃ b0, w.heap.size = b0 ∧ Blk W b0 [.int .i64 xi, .int .i64 xo] ∧ Below w.heap.size w W) ⟨_, rfl, ?_, ?_⟩ ?_
  · exact Blk.new _ _ _ _ (by first | rfl | simp)
  · go_grown
  rintro W ⟨b0, e0, B0, hB⟩
  rw [e0]
  have G0 : w.heap.size ≤ b0 := by omega
  clear e0
  have ⟨L0, C0, F0⟩ := B0
  have hkW : Kept [] w W := (Kept.refl _ _).call hB
  go_wp2_with (go_at_call 41; refine (indexp_any A n c l xi xo _ (hr.later hB) hn).mono ?_; rintro e w1 ⟨⟨r, rfl, hd⟩, hb1⟩)
  go_ret
  exact ⟨by rw [← hd]; rfl, (hkW.call hb1).toBelow⟩

set_option maxRecDepth 100000 in
set_option maxHeartbeats 1000000 in
theorem esat1_any (A1 A2 A3 : Option Addr) (n1 c1 n2 c2 n3 c3 n4 c4 b o b0 b1 j : Nat) (mn FF nd sn : Int) (w : World) (B0 : Blk w b0 [.slice A1 n1 c1, .slice A2 n2 c2, .int .i64 mn, .int .i64 FF, .slice A3 n3 c3, .slice (some ⟨b, o, none⟩) n4 c4]) (B1 : Blk w b1 [.int .i64 nd])
    (hj : j < n4) (h1 : w.cell? ⟨b, o + j * 2, none⟩ = some (.int .i64 sn)) :
    Calls Tryz.prog 40 #[.int .i64 j, .pointer (some ⟨b0, 0, none⟩), .pointer (some ⟨b1, 0, none⟩)] w fun e w' => e = .returned (.bool (decide (nd ≤ sn))) ∧ Below w.heap.size w w' := by
  have ⟨L0, C0, F0⟩ := B0
  have ⟨L1, C1, F1⟩ := B1
  have hj1 : (j : Int) < (n4 : Int) := by omega
  go_enter Tryz.func40, Tryz.ntmps40
  go_upto_region 1 with fail
  go_quiet (fail)
  go_wp2_with fail
  go_ret
  exact ⟨rfl, ((Kept.refl [] w).drewN _).toBelow⟩

set_option maxRecDepth 100000 in
set_option maxHeartbeats 4000000 in
theorem esearch_any (b0 b1 n : Nat) (p : Nat → Bool) (w : World) (hsz : n < 4611686018427387904)
    (hf : ∀ (wr : World) (i : Nat), Kept [] w wr → i < n → Calls Tryz.prog 40 #[.int .i64 i, .pointer (some ⟨b0, 0, none⟩), .pointer (some ⟨b1, 0, none⟩)] wr fun e w' => e = .returned (.bool (p i)) ∧ Below wr.heap.size wr w')
    (hmono : ∀ a b, a ≤ b → b < n → p a = true → p b = true) :
    Calls Tryz.prog 39 #[.int .i64 n, .func (.func 40) #[] #[.pointer (some ⟨b0, 0, none⟩), .pointer (some ⟨b1, 0, none⟩)]] w fun e w' =>
      ∃ r : Nat, e = .returned (.int .i64 r) ∧ r ≤ n ∧ (∀ t, t < r → p t = false) ∧ (∀ t, r ≤ t → t < n → p t = true) ∧ Below w.heap.size w w' := by
  have HF := Lib.hid hf
  have HM := Lib.hid hmono
  clear hf hmono
  go_enter Tryz.func39, Tryz.ntmps39
  go_wp2_with fail
  go_loopw [5, 6] (fun s5 s6 wr => ∃ (lo hi : Nat), s5 = .int .i64 lo ∧ s6 = .int .i64 hi ∧ lo ≤ hi ∧ hi ≤ n ∧ Kept [] w wr ∧ Hid ((∀ t, t < lo → p t = false) ∧ (∀ t, hi ≤ t → t < n → p t = true))) (fun a b _ => (intOf b).toNat - (intOf a).toNat)
  case atStart => exact ⟨0, n, rfl, rfl, Nat.zero_le _, Nat.le_refl _, Kept.refl _ _, Lib.hid ⟨fun t ht => absurd ht (Nat.not_lt_zero _), fun t h1 h2 => by omega⟩⟩
  case round =>
    obtain ⟨lo, hi, rfl, rfl, hlh, hin, hkr, I⟩ := hrel
    by_cases hlt : lo < hi
    · have hc := HF.out wr ((lo + hi) / 2) hkr (by omega)
      rw [show (((lo + hi) / 2 : Nat) : Int) = ((lo : Int) + (hi : Int)) / 2 by omega] at hc
      obtain ⟨q, hq⟩ : ∃ q, p ((lo + hi) / 2) = q := ⟨_, rfl⟩
      rw [hq] at hc
      have HQ := Lib.hid hq
      clear hq
      cases q
      · go_wp2_with (go_at_call 40; refine hc.mono ?_; rintro e w5 ⟨rfl, hb5⟩)
        refine ⟨⟨(lo + hi) / 2 + 1, hi, by rw [show ((lo : Int) + (hi : Int)) / 2 + 1 = (((lo + hi) / 2 + 1 : Nat) : Int) by omega], rfl, by omega, hin, hkr.call hb5, Lib.hid ⟨fun t ht => ?_, I.out.2⟩⟩, by simp [intOf]; omega⟩
        cases h : p t with
        | false => rfl
        | true => have := HM.out t ((lo + hi) / 2) (by omega) (by omega) h; rw [HQ.out] at this; cases this
      · go_wp2_with (go_at_call 40; refine hc.mono ?_; rintro e w5 ⟨rfl, hb5⟩)
        exact ⟨⟨lo, (lo + hi) / 2, rfl, by rw [show ((lo : Int) + (hi : Int)) / 2 = (((lo + hi) / 2 : Nat) : Int) by omega], by omega, by omega, hkr.call hb5, Lib.hid ⟨I.out.1, fun t ht htn => HM.out ((lo + hi) / 2) t ht htn HQ.out⟩⟩, by simp [intOf]; omega⟩
    · obtain rfl : hi = lo := by omega
      go_wp2_with fail
      go_ret
      exact ⟨hi, rfl, hin, I.out.1, I.out.2, hkr.toBelow⟩

set_option maxRecDepth 100000 in
set_option maxHeartbeats 4000000 in
theorem eseedsat_any (A1 A2 A3 A4 : Option Addr) (n1 c1 n2 c2 n3 c3 n4 c4 : Nat) (mn FF nd : Int) (sd : List Sd) (w : World) (hs : Sds w A4 n4 sd) (hn4 : n4 ≤ 1000000) (hc4 : n4 ≤ c4) (hsrt : ∀ i j, i ≤ j → j < n4 → (gd sd i).n ≤ (gd sd j).n) :
    Calls Tryz.prog 20 #[.agg #[.slice A1 n1 c1, .slice A2 n2 c2, .int .i64 mn, .int .i64 FF, .slice A3 n3 c3, .slice A4 n4 c4], .int .i64 nd] w (GetF w (seedF sd nd)) := by
  obtain ⟨i1, hj, hy0, hy1, hy2⟩ := info_parts intf_info
  have HS := Lib.hid hs
  have HL := Lib.hid hs.1
  have HR := Lib.hid hsrt
  clear hs hsrt
  go_enter Tryz.func20, Tryz.ntmps20
  go_upto_region 1 with fail
  refine wp_named (fun W => ∃ b0 b1, w.heap.size = b0 ∧ w.heap.size + 1 = b1 ∧ Blk W b0 [.slice A1 n1 c1, .slice A2 n2 c2, .int .i64 mn, .int .i64 FF, .slice A3 n3 c3, .slice A4 n4 c4] ∧ Blk W b1 [.int .i64 nd] ∧ Below w.heap.size w W) ⟨_, _, rfl, rfl, ?_, ?_, ?_⟩ ?_
  · exact (Blk.new _ _ _ _ (by first | rfl | simp)).alloc _
  · exact Blk.new _ _ _ _ (by first | rfl | simp)
  · go_grown
  rintro W ⟨b0, b1, e0, e1, B0, B1, hB⟩
  rw [e1, e0]
  have G0 : w.heap.size ≤ b0 := by omega
  have n01 : b0 ≠ b1 := by omega
  have G1 : w.heap.size ≤ b1 := by omega
  have n10 : b1 ≠ b0 := by omega
  clear e0 e1
  have ⟨L0, C0, F0⟩ := B0
  have ⟨L1, C1, F1⟩ := B1
  have hkW : Kept [] w W := (Kept.refl _ _).call hB
  have HFF : Hid (∀ (wr : World) (i : Nat), Kept [] W wr → i < n4 → Calls Tryz.prog 40 #[.int .i64 i, .pointer (some ⟨b0, 0, none⟩), .pointer (some ⟨b1, 0, none⟩)] wr fun e w' => e = .returned (.bool ((fun i => decide (nd ≤ (gd sd i).n)) i)) ∧ Below wr.heap.size wr w') := by
    intro wr i hk hi
    obtain ⟨b, o, rfl, hl, hc⟩ := HS.out.2 (by omega)
    exact esat1_any _ _ _ _ _ _ _ _ _ _ _ b o b0 b1 i mn FF nd _ wr (hk.blk (by simp) B0) (hk.blk (by simp) B1) hi (((keptTrans hkW hk).cell b _ hl (by simp)).trans (hc i hi).1)
  have HMM : Hid (∀ a b, a ≤ b → b < n4 → (fun i => decide (nd ≤ (gd sd i).n)) a = true → (fun i => decide (nd ≤ (gd sd i).n)) b = true) := fun a b h1 h2 h3 => by
    simp only [decide_eq_true_eq] at *
    have := HR.out a b h1 h2
    omega
  go_upto_region 3 with (go_at_call 39; refine (esearch_any b0 b1 n4 _ _ (by omega) HFF.out HMM.out).mono ?_; rintro e w1 ⟨r, rfl, hr, hr1, hr2, hb1⟩)
  have hk1 : Kept [] W w1 := (Kept.refl _ _).call hb1
  have HR1 : Hid (∀ j, j < r → (gd sd j).n ≠ nd) := fun j hj => by have := hr1 j hj; simp at this; omega
  have HR2 : Hid (∀ j, r ≤ j → j < n4 → nd ≤ (gd sd j).n) := fun j h1 h2 => by have := hr2 j h1 h2; simpa using this
  clear hr1 hr2 HFF HMM C0 F0 C1 F1
  have B01 := hk1.blk (by simp) B0
  have B11 := hk1.blk (by simp) B1
  have ⟨L01, C01, F01⟩ := B01
  by_cases hrn : r = n4
  case pos =>
    subst hrn
    have HE : Hid (seedF sd nd = []) := Lib.hid (by rw [seedF_mid (a := r) (m := 0) (by rw [HL.out]; omega) HR1.out (fun j h1 h2 => absurd h2 (by omega)) (fun j h1 h2 => absurd h2 (by rw [HL.out]; omega))]; rfl)
    have hrr : ((r : Nat) : Int) - r = 0 := by omega
    cases A4 with
    | none =>
      go_upto_region 4 with fail
      go_loopw [5, 19] (fun s5 i wr => s5 = .slice none 0 0 ∧ i = .int .i64 0 ∧ w1 = wr) (fun _ _ _ => 0)
      case atStart => exact ⟨rfl, rfl, rfl⟩
      case round =>
        obtain ⟨rfl, rfl, rfl⟩ := hrel
        go_wp2_with fail
        go_ret
        exact ⟨none, 0, 0, rfl, by rw [HE.out]; exact Ints.empty _ _, by omega, (keptTrans hkW hk1).toBelow⟩
    | some a =>
      by_cases hcr : c4 = r
      · subst hcr
        go_upto_region 4 with fail
        go_loopw [5, 19] (fun s5 i wr => s5 = .slice none 0 0 ∧ i = .int .i64 0 ∧ w1 = wr) (fun _ _ _ => 0)
        case atStart => exact ⟨rfl, rfl, rfl⟩
        case round =>
          obtain ⟨rfl, rfl, rfl⟩ := hrel
          go_wp2_with fail
          go_ret
          exact ⟨none, 0, 0, rfl, by rw [HE.out]; exact Ints.empty _ _, by omega, (keptTrans hkW hk1).toBelow⟩
      · go_upto_region 4 with fail
        go_loopw [5, 19] (fun s5 i wr => s5 = .slice none 0 0 ∧ i = .int .i64 0 ∧ w1 = wr) (fun _ _ _ => 0)
        case atStart => exact ⟨rfl, rfl, rfl⟩
        case round =>
          obtain ⟨rfl, rfl, rfl⟩ := hrel
          go_wp2_with fail
          go_ret
          exact ⟨none, 0, 0, rfl, by rw [HE.out]; exact Ints.empty _ _, by omega, (keptTrans hkW hk1).toBelow⟩
  case neg =>
  obtain ⟨b, o, rfl, hl0, hc⟩ := HS.out.2 (by omega)
  have HC := Lib.hid hc
  have hcr : ¬ c4 = r := by omega
  have hrc : r ≤ c4 := by omega
  clear hc
  go_upto_region 4 with fail
  go_loopw [5, 19] (fun s5 i wr => ∃ (j : Nat) (B : Option Addr) (cB : Nat), r + j ≤ n4 ∧ i = .int .i64 j ∧ s5 = .slice B j cB ∧ Kept [] W wr ∧ Hid (∀ x, r ≤ x → x < r + j → (gd sd x).n = nd) ∧ Hid (wr.ownsRow W.heap.size 3 1 (.slice B j cB) j ((((sd.drop r).take j).map (·.f)).map (Value.int .i64)))) (fun _ i _ => n4 - r - (intOf i).toNat)
  case atStart => exact ⟨0, none, 0, by omega, rfl, rfl, hk1, Lib.hid (fun x h1 h2 => absurd h1 (by omega)), Lib.hid (World.ownsRow_nil _ _ _ _)⟩
  case round =>
    clear C01 F01
    obtain ⟨j, B, cB, hj', rfl, rfl, hkr, hall, own⟩ := hrel
    have ⟨L2, C2, F2⟩ := hkr.blk (by simp) B0
    have ⟨L3, C3, F3⟩ := hkr.blk (by simp) B1
    have hkwr : Kept [] w wr := keptTrans hkW hkr
    have hsr := hkr.size
    have HX : Hid (∀ y ∈ (Value.slice B j cB).ownBlock.toList, W.heap.size ≤ y) := (fun y hy => own_ge own.out (by simpa using hy))
    by_cases hlt : r + j < n4
    case neg =>
      have HE : Hid (seedF sd nd = ((sd.drop r).take j).map (·.f)) := Lib.hid (seedF_mid (by rw [HL.out]; omega) HR1.out hall.out (fun x h1 h2 => absurd h2 (by rw [HL.out]; omega)))
      have hlt2 : ¬ (j : Int) < (n4 : Int) - (r : Int) := by omega
      have hlt3 : ¬ j < n4 - r := by omega
      go_wp2_with fail
      go_ret
      obtain ⟨h1, h2⟩ := Ints.ofOwn own.out
      exact ⟨B, j, cB, rfl, by rw [HE.out]; exact h1, h2, hkwr.toBelow⟩
    obtain ⟨sn, sf, en⟩ : ∃ sn sf, gd sd (r + j) = ⟨sn, sf⟩ := ⟨_, _, rfl⟩
    have hcj := HC.out (r + j) hlt
    rw [en] at hcj
    have r1 : wr.cell? ⟨b, o + r * 2 + j * 2, none⟩ = some (.int .i64 sn) := by rw [show o + r * 2 + j * 2 = o + (r + j) * 2 by omega]; exact (hkwr.cell b _ hl0 (by simp)).trans hcj.1
    have r2 : wr.cell? ⟨b, o + r * 2 + j * 2 + 1, none⟩ = some (.int .i64 sf) := by rw [show o + r * 2 + j * 2 + 1 = o + (r + j) * 2 + 1 by omega]; exact (hkwr.cell b _ hl0 (by simp)).trans hcj.2
    have hlr : b < wr.heap.size := Nat.lt_of_lt_of_le hl0 hkwr.size
    have HEN := Lib.hid en
    have hlt2 : (j : Int) < (n4 : Int) - (r : Int) := by omega
    have hlt3 : j < n4 - r := by omega
    clear hcj en
    go_upto_region 6 with fail
    refine wp_named (fun V => ∃ gb, wr.heap.size = gb ∧ Blk V gb [.int .i64 sn, .int .i64 sf] ∧ Kept [] wr V) ⟨_, rfl, Blk.new _ _ _ _ rfl, (Kept.refl _ _).alloc _⟩ ?_
    rintro V ⟨gb, eg, Bg, hkV⟩
    rw [eg]
    have ⟨LG, CG, FG⟩ := Bg
    have hkWV : Kept [] W V := keptTrans hkr hkV
    have ⟨L3V, C3V, F3V⟩ := hkWV.blk (by simp) B1
    have OWV := Lib.hid (own_keptT (X := []) own.out hkV (by simp))
    have hsV := hkWV.size
    clear eg C2 F2 C3 F3 r1 r2
    by_cases hnd : sn = nd
    · have e1 : (sn != nd) = false := by simpa using hnd
      have HA : Hid (∀ x, r ≤ x → x < r + (j + 1) → (gd sd x).n = nd) := Lib.hid (fun x h1 h2 => by
        rcases Nat.lt_or_ge x (r + j) with h9 | h9
        · exact hall.out x h1 h9
        · obtain rfl : x = r + j := by omega
          rw [HEN.out]; exact hnd)
      have HAP0 := ints_snoc (((sd.drop r).take j).map (·.f)) sf
      have HAP : Hid (((((sd.drop r).take j).map (·.f)).map (Value.int .i64)) ++ [.int .i64 sf] = ((((sd.drop r).take (j + 1)).map (·.f)).map (Value.int .i64))) := Lib.hid (by rw [HAP0, drop_take_snoc (by rw [HL.out]; exact hlt), HEN.out])
      clear hnd HAP0
      go_wp2_with (at_builtin; refine wpList_append_rd _ rfl _ _ 30 rfl W.heap.size 3 i1 (.int .i64 0) 1 8 Tryz.underlying30 hj hy0 hy1 hy2 rfl (by decide) (.slice B j cB) j _ rfl (own_keptT (X := []) OWV.out ((Kept.refl _ _).alloc _) (by simp)) (some ⟨V.heap.size, 0, none⟩) 1 1 [.int .i64 sf] rfl (Rd.new1 _ _ _ _ rfl) (fun h => by cases h) (by intro u hu; simp at hu; subst hu; rfl) (j + 1) rfl _ HAP.out (by unfold maxLen; omega) (by omega) (by simp; omega) ?_; intro A9 c9 w9 hown4 hk4 hat4; have hk5 := Lib.hid ((hkWV.alloc (.cells #[.int .i64 sf] 3)).next hk4 (fun y hy => Or.inr (HX.out y hy))); have HO4 := Lib.hid hown4; clear hown4 hk4 hat4)
      exact ⟨⟨j + 1, A9, c9, by omega, by go_num, rfl, hk5.out, HA, HO4⟩, by simp [intOf]; omega⟩
    · have e1 : (sn != nd) = true := by simpa using hnd
      have HE : Hid (seedF sd nd = ((sd.drop r).take j).map (·.f)) := Lib.hid (seedF_mid (by rw [HL.out]; omega) HR1.out hall.out (fun x h1 h2 => by
        have h3 := HR.out (r + j) x h1 (by rw [← HL.out]; exact h2)
        have h4 := HR2.out (r + j) (by omega) hlt
        rw [HEN.out] at h3 h4
        dsimp only at h3 h4
        omega))
      clear hnd
      go_wp2_with fail
      go_ret
      obtain ⟨h1, h2⟩ := Ints.ofOwn OWV.out
      exact ⟨B, j, cB, rfl, by rw [HE.out]; exact h1, h2, (keptTrans hkW hkWV).toBelow⟩
end Go.Proofs.YtffkikhknabddaaGreat
/- The contracts of slices.Sort, Compact, Grow and Concat at rows of one's own, and of the program's unite. -/
namespace Go.Df
open Go.RowKit Go.Sort Go.Proofs
theorem grow_nil (w : World) : grow w #[] = w := by simp [grow]
/-- A row of one's own, compacted. -/
theorem own_compact {w : World} {base g cap q : Nat} {e : TypeId} {ss ts zs : List Int} (hl : ts.length + zs.length = ss.length) (h : w.ownsRow base e 1 (.slice (some ⟨g, 0, none⟩) ss.length cap) ss.length (ss.map (Value.int .i64))) :
    (putRow (Value.int .i64) (Sort.ahead w q) g 0 (ts ++ zs).toArray).ownsRow base e 1 (.slice (some ⟨g, 0, none⟩) ts.length cap) ts.length (ts.map (Value.int .i64)) ∧ Kept [g] w (putRow (Value.int .i64) (Sort.ahead w q) g 0 (ts ++ zs).toArray) := by
  rcases h.2 with ⟨h0, _⟩ | ⟨g', cap', cur, hv, hg, hh, hn, hcap, hcs, htk⟩
  · cases h0
  cases hv
  refine ⟨⟨by simp, .inr ⟨g, cap, putCells (Value.int .i64) 0 (ts ++ zs).toArray cur, rfl, hg, ?_, by omega, hcap, by simpa [putCells] using hcs, ?_⟩⟩, ?_⟩
  · have := heap_sortedI (n := q) (os := #[]) (ts ++ zs).toArray hh
    rwa [grow_nil] at this
  · have h1 := take_putCellsI cur (ts ++ zs) (by rw [List.length_append]; omega)
    have h2 := congrArg (List.take ts.length) h1
    rw [List.take_take, List.length_append, Nat.min_eq_left (by omega), List.map_append, List.take_append_of_le_length (by simp), List.take_of_length_le (l := ts.map (Value.int .i64)) (by simp)] at h2
    rw [Nat.mul_one]
    exact h2
  · have := kept_grown (grownBy_sortedI (w := w) (g := g) (n := q) (os := #[]) (ts ++ zs).toArray)
    rw [grow_nil] at this
    simpa using this
theorem own_block {w : World} {base g : Nat} {e : TypeId} {n c : Nat} {xs : List Value} (h : w.ownsRow base e 1 (.slice (some ⟨g, 0, none⟩) n c) n xs) : g < w.heap.size := by
  rcases h.2 with ⟨h0, _⟩ | ⟨g', cap', cur, hv, hg, hh, _⟩
  · cases h0
  · cases hv
    rcases Nat.lt_or_ge g w.heap.size with h1 | h1
    · exact h1
    · rw [Array.getElem?_eq_none h1] at hh; cases hh
end Go.Df
namespace Go.Proofs.YtffkikhknabddaaGreat
open Go.RowKit Go.Df Go.Df.If Go.Sort
attribute [local go_sem ↓] Go.wp_at_zero Go.wp_at_succ

/-- slices.Sort at a row of one's own. -/
theorem sort_own {base : Nat} {B : Option Addr} {k c : Nat} {l : List Int} (w : World) (h : w.ownsRow base 3 1 (.slice B k c) k (l.map (Value.int .i64))) (hk : k ≤ 1000000) :
    Calls Tryz.prog 60 #[.slice B k c] w fun e w' => e = .returned (.tuple #[]) ∧ w'.ownsRow base 3 1 (.slice B k c) k ((l.mergeSort fun x y => decide (x ≤ y)).map (Value.int .i64)) ∧ Kept (Value.slice B k c).ownBlock.toList w w' := by
  have hl : l.length = k := by simpa using h.1
  rcases h.2 with ⟨hv, h0⟩ | ⟨g, cap, cur, hv, hg, hh, hn, hcap, hcs, htk⟩
  · cases hv
    refine (Any.slices_Sort_int_none layS none 0 w).mono ?_
    rintro e w' ⟨rfl, rfl⟩
    have : l = [] := List.length_eq_zero_iff.1 hl
    subst this
    exact ⟨rfl, by simpa using h, Kept.refl _ _⟩
  · cases hv
    subst hl
    have hgl := own_block h
    have hH : Holds (Value.int .i64) w g 0 l.toArray := holds_of_blockI hh (by simpa using htk)
    refine (Any.slices_Sort_int layS g 0 c l w hH hgl (by omega)).mono ?_
    rintro e w' ⟨rfl, n, os, rfl⟩
    refine ⟨rfl, ?_, ?_⟩
    · exact ownsRow_sortedI (ss := l) (List.length_mergeSort l) hg hh hn hcap hcs
    · have := kept_grown (grownBy_sortedI (w := w) (g := g) (n := n) (os := os) (l.mergeSort fun x y => decide (x ≤ y)).toArray)
      exact this

/-- slices.Compact at a row of one's own. -/
theorem compact_own {base : Nat} {B : Option Addr} {k c : Nat} {l : List Int} (w : World) (h : w.ownsRow base 3 1 (.slice B k c) k (l.map (Value.int .i64))) (hk : k ≤ 1000000) :
    Calls Tryz.prog 61 #[.slice B k c] w fun e w' => e = .returned (.slice B (Lib.compact l).length c) ∧ w'.ownsRow base 3 1 (.slice B (Lib.compact l).length c) (Lib.compact l).length ((Lib.compact l).map (Value.int .i64)) ∧ Kept (Value.slice B k c).ownBlock.toList w w' := by
  have hl : l.length = k := by simpa using h.1
  rcases h.2 with ⟨hv, h0⟩ | ⟨g, cap, cur, hv, hg, hh, hn, hcap, hcs, htk⟩
  · cases hv
    refine (Any.slices_Compact_int_empty layC none 0 w).mono ?_
    rintro e w' ⟨rfl, rfl⟩
    have : l = [] := List.length_eq_zero_iff.1 hl
    subst this
    exact ⟨rfl, by simpa [Lib.compact, Lib.compactUpTo] using h, Kept.refl _ _⟩
  · cases hv
    subst hl
    have hH : Holds (Value.int .i64) w g 0 l.toArray := holds_of_blockI hh (by simpa using htk)
    refine (Any.slices_Compact_int layC g 0 c l w hH (by omega) hn).mono ?_
    rintro e w' ⟨rfl, q, rfl⟩
    have hle : (Lib.compact l).length ≤ l.length := by unfold Lib.compact Lib.compactUpTo; rw [List.length_map]; exact Nat.le_trans (List.length_filter_le _ _) (by simp)
    obtain ⟨h1, h2⟩ := own_compact (ts := Lib.compact l) (zs := List.replicate (l.length - (Lib.compact l).length) 0) (q := q) (by rw [List.length_replicate]; omega) h
    exact ⟨rfl, h1, h2⟩

/-- slices.Grow of nil. -/
theorem grow_any (n : Nat) (w : World) (hn : n ≤ 1000000) :
    Calls Tryz.prog 76 #[.slice none 0 0, .int .i64 n] w fun e w' => ∃ A c, e = .returned (.slice A 0 c) ∧ w'.ownsRow w.heap.size 3 1 (.slice A 0 c) 0 [] ∧ Kept [] w w' := by
  by_cases h0 : n = 0
  · subst h0
    refine (Any8.slices_Grow_room layG none 0 0 0 w (by omega) (by omega) (by omega) (by omega)).mono ?_
    rintro e w' ⟨rfl, rfl⟩
    exact ⟨none, 0, rfl, World.ownsRow_nil _ _ _ _, Kept.refl _ _⟩
  · obtain ⟨i1, hj, hy0, hy1, hy2⟩ := info_parts intf_info
    refine (Any8.slices_Grow_grow layG i1 (.int .i64 0) hj hy0 (by omega) none 0 0 n [] w (by omega) (by omega) (by rw [hy2]; omega) (by omega) (by simp) (fun _ => rfl) (fun a h => by cases h)).mono ?_
    rintro e w' ⟨rfl, rfl⟩
    have hge := grownCap_ge w n 0 (layGr.t 25)
    have hle := grownCap_le_maxLen w (0 + n) 0 3 (by unfold maxLen; omega)
    refine ⟨_, _, rfl, ⟨by simp, .inr ⟨w.heap.size, _, _, rfl, Nat.le_refl _, heap_alloc_new w.drew _, by omega, hle, ?_, by simp⟩⟩, (Kept.refl [] w).drew.alloc _⟩
    simp [Builtin.zeroCells, Value.cells]
    omega
end Go.Proofs.YtffkikhknabddaaGreat
/- The contracts of slices.Concat of two lists and of the program's unite. -/
namespace Go.Df
open Go.RowKit
theorem ints_nil_zero {w : World} {A : Option Addr} {n : Nat} {l : List Int} (h : Ints w A n l) : A = none → n = 0 := fun e => by
  rcases Nat.eq_zero_or_pos n with h0 | h0
  · exact h0
  · obtain ⟨b, o, e2, -⟩ := h.2 h0
    rw [e] at e2; cases e2
/-- The first k of two. -/
def ctN (n m k : Nat) : Nat := if k = 0 then 0 else if k = 1 then n else n + m
def ctL (la lb : List Int) (k : Nat) : List Int := if k = 0 then [] else if k = 1 then la else la ++ lb
end Go.Df
namespace Go.Proofs.YtffkikhknabddaaGreat
open Go.RowKit Go.Df Go.Df.If
attribute [local go_sem ↓] Go.wp_at_zero Go.wp_at_succ

set_option maxRecDepth 100000 in
set_option maxHeartbeats 8000000 in
theorem concat_any (r : Nat) (A B : Option Addr) (n c m d : Nat) (la lb : List Int) (w : World) (hB0 : Blk w r [.slice A n c, .slice B m d]) (hA : Ints w A n la) (hB : Ints w B m lb) (hn : n ≤ 10000) (hm : m ≤ 10000) :
    Calls Tryz.prog 59 #[.slice (some ⟨r, 0, none⟩) 2 2] w fun e w' => ∃ A' c', e = .returned (.slice A' (n + m) c') ∧ w'.ownsRow w.heap.size 3 1 (.slice A' (n + m) c') (n + m) ((la ++ lb).map (Value.int .i64)) ∧ Kept [] w w' := by
  obtain ⟨i1, hj, hy0, hy1, hy2⟩ := info_parts intf_info
  have HA := Lib.hid hA
  have HB := Lib.hid hB
  have ⟨L0, C0, F0⟩ := hB0
  clear hA hB
  go_enter Tryz.func59, Tryz.ntmps59
  go_wp2_with fail
  go_loopw [3, 11] (fun s3 i wr => ∃ k : Nat, k ≤ 2 ∧ i = .int .i64 k ∧ s3 = .int .i64 (ctN n m k : Nat) ∧ w = wr) (fun _ i _ => 2 - (intOf i).toNat)
  case atStart => exact ⟨0, by omega, rfl, rfl, rfl⟩
  case round =>
  obtain ⟨k, hk, rfl, rfl, rfl⟩ := hrel
  by_cases hlt : k < 2
  · rcases (show k = 0 ∨ k = 1 by omega) with rfl | rfl
    · simp only [ctN, if_true]
      go_wp2_with fail
      exact ⟨⟨1, by omega, by go_num, by simp, by first | rfl | trivial⟩, by simp [intOf]⟩
    · simp only [ctN, if_true, Nat.one_ne_zero, if_false]
      have hnm : ¬ ((n : Int) + (m : Int) < 0) := by omega
      go_wp2_with fail
      exact ⟨⟨2, by omega, by go_num, by simp, by first | rfl | trivial⟩, by simp [intOf]⟩
  obtain rfl : k = 2 := by omega
  have e2 : ctN n m 2 = n + m := rfl
  rw [e2]
  clear hlt e2
  go_upto_region 10 with (go_at_call 76; refine (grow_any (n + m) _ (by omega)).mono ?_; rintro e w1 ⟨A1, cap1, rfl, hown1, hk1⟩)
  have OW1 := Lib.hid hown1
  clear hown1 C0 F0
  go_wp2_with fail
  go_loopw [6, 27] (fun s6 i wr => ∃ (k : Nat) (Q : Option Addr) (cQ : Nat), k ≤ 2 ∧ i = .int .i64 k ∧ s6 = .slice Q (ctN n m k) cQ ∧ Kept [] w wr ∧ Hid (wr.ownsRow w.heap.size 3 1 (.slice Q (ctN n m k) cQ) (ctN n m k) ((ctL la lb k).map (Value.int .i64)))) (fun _ i _ => 2 - (intOf i).toNat)
  case atStart => exact ⟨0, A1, cap1, by omega, rfl, rfl, hk1, OW1⟩
  case round =>
  rename World => wr
  obtain ⟨k, Q, cQ, hk, rfl, rfl, hkr, own⟩ := hrel
  have ⟨LR, CR, FR⟩ := hkr.blk (by simp) hB0
  have hsr := hkr.size
  have HX : Hid (∀ y ∈ (Value.slice Q (ctN n m k) cQ).ownBlock.toList, w.heap.size ≤ y) := (fun y hy => own_ge own.out (by simpa using hy))
  by_cases hlt : k < 2
  case neg =>
    obtain rfl : k = 2 := by omega
    have e2 : ctN n m 2 = n + m := rfl
    have e3 : ctL la lb 2 = la ++ lb := rfl
    rw [e2] at own ⊢
    rw [e3] at own
    go_wp2_with fail
    go_ret
    exact ⟨Q, cQ, rfl, own.out, hkr⟩
  rcases (show k = 0 ∨ k = 1 by omega) with rfl | rfl
  · have e1 : ctN n m 0 = 0 := rfl
    have e2 : ctL la lb 0 = [] := rfl
    rw [e1] at own HX ⊢
    rw [e2] at own
    have HAP : Hid ((([] : List Int).map (Value.int .i64)) ++ la.map (Value.int .i64) = la.map (Value.int .i64)) := Lib.hid (by simp)
    clear e1 e2
    go_wp2_with (at_builtin; refine wpList_append_rd _ rfl _ _ 30 rfl w.heap.size 3 i1 (.int .i64 0) 1 8 Tryz.underlying30 hj hy0 hy1 hy2 rfl (by decide) (.slice Q 0 cQ) 0 _ rfl own.out A n c (la.map (Value.int .i64)) rfl (Rd.ints (HA.out.kept hkr)) (ints_nil_zero HA.out) (ints_one _) (n) (by omega) _ HAP.out (by unfold maxLen; omega) (by omega) (by omega) ?_; intro A9 c9 w9 hown4 hk4 hat4; have hk5 := Lib.hid (hkr.next hk4 (fun y hy => Or.inr (HX.out y hy))); have HO4 := Lib.hid hown4; clear hown4 hk4 hat4)
    exact ⟨⟨1, A9, c9, by omega, by go_num, rfl, hk5.out, HO4⟩, by simp [intOf]⟩
  · have e1 : ctN n m 1 = n := rfl
    have e2 : ctL la lb 1 = la := rfl
    rw [e1] at own HX ⊢
    rw [e2] at own
    have HAP : Hid (la.map (Value.int .i64) ++ lb.map (Value.int .i64) = (la ++ lb).map (Value.int .i64)) := Lib.hid (by simp)
    clear e1 e2
    go_wp2_with (at_builtin; refine wpList_append_rd _ rfl _ _ 30 rfl w.heap.size 3 i1 (.int .i64 0) 1 8 Tryz.underlying30 hj hy0 hy1 hy2 rfl (by decide) (.slice Q n cQ) n _ rfl own.out B m d (lb.map (Value.int .i64)) rfl (Rd.ints (HB.out.kept hkr)) (ints_nil_zero HB.out) (ints_one _) (n + m) (by omega) _ HAP.out (by unfold maxLen; omega) (by omega) (by omega) ?_; intro A9 c9 w9 hown4 hk4 hat4; have hk5 := Lib.hid (hkr.next hk4 (fun y hy => Or.inr (HX.out y hy))); have HO4 := Lib.hid hown4; clear hown4 hk4 hat4)
    exact ⟨⟨2, A9, c9, by omega, by go_num, rfl, hk5.out, HO4⟩, by simp [intOf]⟩

set_option maxRecDepth 100000 in
set_option maxHeartbeats 4000000 in
theorem unite_any (r : Nat) (A B : Option Addr) (n c m d : Nat) (la lb : List Int) (w : World) (hB0 : Blk w r [.slice A n c, .slice B m d]) (hA : Ints w A n la) (hB : Ints w B m lb) (hn : n ≤ 10000) (hm : m ≤ 10000) :
    Calls Tryz.prog 31 #[.slice (some ⟨r, 0, none⟩) 2 2] w (GetF w (joinF la lb)) := by
  go_enter Tryz.func31, Tryz.ntmps31
  go_upto_region 2 with (go_at_call 59; refine (concat_any r A B n c m d la lb _ hB0 hA hB hn hm).mono ?_; rintro e w1 ⟨A1, c1, rfl, hown1, hk1⟩)
  have OW1 := Lib.hid hown1
  clear hown1
  go_upto_region 3 with (go_at_call 60; refine (sort_own _ OW1.out (by omega)).mono ?_; rintro e w2 ⟨rfl, hown2, hk2⟩)
  have OW2 := Lib.hid hown2
  clear hown2
  go_wp2_with (go_at_call 61; refine (compact_own _ OW2.out (by omega)).mono ?_; rintro e w3 ⟨rfl, hown3, hk3⟩)
  go_ret
  have HX : ∀ y ∈ (Value.slice A1 (n + m) c1).ownBlock.toList, w.heap.size ≤ y := fun y hy => own_ge OW1.out (by simpa using hy)
  have e9 : Lib.compact ((la ++ lb).mergeSort fun x y => decide (x ≤ y)) = joinF la lb := sorted_compact _
  obtain ⟨h1, h2⟩ := Ints.ofOwn hown3
  refine ⟨A1, _, c1, rfl, by rw [← e9]; exact h1, h2, ?_⟩
  have h3 := hk1.next hk2 (fun y hy => Or.inr (HX y hy))
  exact (h3.next hk3 (fun y hy => Or.inr (HX y hy))).toBelow
end Go.Proofs.YtffkikhknabddaaGreat
/- The contract of the program's flow.Apply. -/
namespace Go.Df
open Go.RowKit
namespace If
/-- Which facts hold, as a map says. -/
def mbF (l : List Int) (i : Nat) : Value → Lit := fun v => match v with | .int .i64 x => .bool (decide (x = 0 ∨ ∃ j, j < i ∧ gi l j = x)) | _ => .bool false
theorem mbF_succ {l : List Int} {i : Nat} {y : Int} (e : gi l i = y) : mbF l (i + 1) (.int .i64 y) = .bool true ∧ ∀ x, x ≠ .int .i64 y → mbF l (i + 1) x = mbF l i x := by
  constructor
  · unfold mbF
    simp only
    exact congrArg Lit.bool (decide_eq_true (Or.inr ⟨i, by omega, e⟩))
  · intro x hx
    unfold mbF
    split
    · rename_i z
      refine congrArg Lit.bool ?_
      rw [decide_eq_decide]
      constructor
      · rintro (h | ⟨j, hj, h⟩)
        · exact Or.inl h
        · rcases Nat.lt_or_ge j i with h9 | h9
          · exact Or.inr ⟨j, h9, h⟩
          · obtain rfl : j = i := by omega
            rw [e] at h
            subst h
            exact absurd rfl hx
      · rintro (h | ⟨j, hj, h⟩)
        · exact Or.inl h
        · exact Or.inr ⟨j, by omega, h⟩
    · rfl
theorem mbF_all {l : List Int} {n : Nat} (h : l.length = n) (x : Int) : mbF l n (.int .i64 x) = .bool (decide (x = 0 ∨ x ∈ l)) := by
  unfold mbF
  simp only
  refine congrArg Lit.bool ?_
  rw [decide_eq_decide]
  constructor
  · rintro (h1 | ⟨j, hj, h1⟩)
    · exact Or.inl h1
    · right; rw [← h1, gi_lt (by omega)]; exact List.getElem_mem _
  · rintro (h1 | h1)
    · exact Or.inl h1
    · obtain ⟨j, hj, e⟩ := List.getElem_of_mem h1
      exact Or.inr ⟨j, by omega, by rw [gi_lt hj]; exact e⟩
end If
end Go.Df
namespace Go.Proofs.YtffkikhknabddaaGreat
open Go.RowKit Go.Df Go.Df.If
attribute [local go_sem ↓] Go.wp_at_zero Go.wp_at_succ
theorem mapIB : Tryz.prog.underlying 115 = some (.map 3 4) := by kernel_rfl
theorem run_makeMapH (w : World) (z : Int) : (Instr.makeMap 115 (some (.int .i64 z))).run Tryz.prog w = .ok (.map (some w.heap.size)) (w.alloc (.map #[] 0)) := by
  simp [Instr.makeMap, run_underlying mapIB, asInt, asIntOf, Result.andThen]
theorem pEltT : plainElem (H := Unit) Tryz.prog 4 (.bool true) = some (.lit (.bool true), []) := plainElem_bool (H := Unit) Tryz.undBool true

set_option maxRecDepth 100000 in
set_option maxHeartbeats 8000000 in
theorem apply_any (A B : Option Addr) (n c m d : Nat) (f : List Pr) (l : List Int) (w : World) (hf : Prs w A n f) (hB : Ints w B m l) (hn : n ≤ 10000) (hm : m ≤ 100000) (hwf : ∀ x ∈ l, (Lit.int .i64 x).wf = true) (hwp : ∀ q ∈ f, (Lit.int .i64 q.i).wf = true) :
    Calls Tryz.prog 32 #[.slice A n c, .slice B m d] w (GetF w (applyF f l)) := by
  obtain ⟨i1, hj, hy0, hy1, hy2⟩ := info_parts intf_info
  have HF := Lib.hid hf
  have HG := Lib.hid hB
  have HLF := Lib.hid hf.1
  have HLG := Lib.hid hB.1
  have HWF := Lib.hid hwf
  have HWP := Lib.hid hwp
  clear hf hB hwf hwp
  have hmm := run_makeMapH
  have HK0 := Lib.hid (Tryz.keyInt 0 (by decide))
  have HG1 := Lib.hid (show mbF l 0 (.int .i64 0) = .bool true from congrArg Lit.bool (decide_eq_true (Or.inl rfl)))
  have HG2 : Hid (∀ x, x ≠ Value.int .i64 0 → mbF l 0 x = .bool false) := Lib.hid (fun x hx => by
    unfold mbF
    split
    · rename_i z
      refine congrArg Lit.bool (decide_eq_false ?_)
      rintro (h | ⟨j, hj, -⟩)
      · subst h; exact hx rfl
      · omega
    · rfl)
  go_enter Tryz.func32, Tryz.ntmps32
  go_upto_region 2 with fail
  refine wp_named (fun V => ∃ p, w.heap.size = p ∧ MapV Tryz.prog 3 4 (.bool false) V p 0 (fun _ => .bool false) ∧ Kept [] w V) ⟨_, rfl, MapV.made _ _ _ _ _ _ rfl, (Kept.refl _ _).alloc _⟩ ?_
  rintro V ⟨p, ep, Mp, hkV⟩
  rw [ep]
  have hpw : w.heap.size ≤ p := by omega
  have MP := Lib.hid Mp
  clear hmm ep Mp
  go_upto_region 3 with (at_mapUpdate; refine wpList_store_map _ rfl _ _ _ 115 rfl 3 4 Tryz.lawInt mapIB (.bool false) p 0 _ rfl MP.out (by unfold maxLen; omega) (.int .i64 0) (.bool true) (.int .i64 0) _ rfl rfl HK0.out pEltT (mbF l 0) HG1.out (fun x hx => HG2.out x hx) ?_; intro w1 M1u hs1; have M1 := Lib.hid M1u; clear M1u)
  have hk1 : Kept [] w w1 := kept_fresh hkV hs1 (by simpa using hpw)
  clear MP hs1 hkV
  go_wp2_with fail
  go_loopw [18] (fun i wr => ∃ j : Nat, j ≤ m ∧ i = .int .i64 j ∧ Kept [] w wr ∧ Hid (MapV Tryz.prog 3 4 (.bool false) wr p (1 + j) (mbF l j))) (fun i _ => m - (intOf i).toNat)
  case atStart => exact ⟨0, Nat.zero_le _, rfl, hk1, M1⟩
  case round =>
  clear M1 hk1
  obtain ⟨j, hj', rfl, hkr, mp⟩ := hrel
  by_cases hlt : j < m
  · obtain ⟨b, o, rfl, hl, hc⟩ := HG.out.2 (by omega)
    have h1 := (hkr.cell b _ hl (by simp)).trans (hc j hlt)
    obtain ⟨y, en⟩ : ∃ y, gi l j = y := ⟨_, rfl⟩
    rw [en] at h1
    have hlr : b < wr.heap.size := Nat.lt_of_lt_of_le hl hkr.size
    have hj9 : (j : Int) < (m : Int) := by omega
    have HKY := Lib.hid (Tryz.keyInt y (by rw [← en, gi_lt (by rw [HLG.out]; exact hlt)]; exact HWF.out _ (List.getElem_mem _)))
    have HS1 := Lib.hid (mbF_succ en).1
    have HS2 := Lib.hid (mbF_succ en).2
    clear hc en
    go_wp2_with (at_mapUpdate; refine wpList_store_map _ rfl _ _ _ 115 rfl 3 4 Tryz.lawInt mapIB (.bool false) p (1 + j) _ rfl mp.out (by unfold maxLen; omega) (.int .i64 y) (.bool true) (.int .i64 y) _ rfl rfl HKY.out pEltT (mbF l (j + 1)) HS1.out HS2.out ?_; intro w2 M2u hs2; have M2 := Lib.hid M2u; clear M2u)
    exact ⟨⟨j + 1, by omega, by go_num, kept_fresh hkr hs2 (by simpa using hpw), M2⟩, by simp [intOf]; omega⟩
  obtain rfl : j = m := by omega
  have MP2 : Hid (MapV Tryz.prog 3 4 (.bool false) wr p (1 + j) (mbF l j)) := mp
  clear hlt hj'
  go_wp2_with fail
  go_loopw [8, 27] (fun s8 i wz => ∃ (i' : Nat) (Q : Option Addr) (k cQ : Nat), i' ≤ n ∧ i = .int .i64 i' ∧ s8 = .slice Q k cQ ∧ Kept [] wr wz ∧ (apI f l i').length = k ∧ k ≤ i' ∧ Hid (wz.ownsRow wr.heap.size 3 1 (.slice Q k cQ) k ((apI f l i').map (Value.int .i64)))) (fun _ i _ => n - (intOf i).toNat)
  case atStart => exact ⟨0, none, 0, 0, Nat.zero_le _, rfl, rfl, Kept.refl _ _, rfl, by omega, Lib.hid (World.ownsRow_nil _ _ _ _)⟩
  case round =>
  rename World => wz
  obtain ⟨i, Q, k, cQ, hi, rfl, rfl, hkz, hok, hki, own⟩ := hrel
  have hkwz : Kept [] w wz := keptTrans hkr hkz
  have hsz := hkz.size
  have HOK := Lib.hid hok
  have HX : Hid (∀ y ∈ (Value.slice Q k cQ).ownBlock.toList, wr.heap.size ≤ y) := (fun y hy => own_ge own.out (by simpa using hy))
  clear hok
  by_cases hlt : i < n
  case neg =>
    obtain rfl : i = n := by omega
    have HU : Hid (ascF (apI f l i) = applyF f l) := Lib.hid (by rw [apI_all (Nat.le_of_eq HLF.out)]; rfl)
    go_upto_region 16 with (go_at_call 60; refine (sort_own _ own.out (by omega)).mono ?_; rintro e w2 ⟨rfl, hown2, hk2⟩)
    have OW2 := Lib.hid hown2
    clear hown2
    go_wp2_with (go_at_call 61; refine (compact_own _ OW2.out (by omega)).mono ?_; rintro e w3 ⟨rfl, hown3, hk3⟩)
    go_ret
    have e9 : Lib.compact ((apI f l i).mergeSort fun x y => decide (x ≤ y)) = applyF f l := (sorted_compact _).trans HU.out
    obtain ⟨h1, h2⟩ := Ints.ofOwn hown3
    refine ⟨Q, _, cQ, rfl, by rw [← e9]; exact h1, h2, ?_⟩
    have h3 := hkz.next hk2 (fun y hy => Or.inr (HX.out y hy))
    exact (keptTrans hkr (h3.next hk3 (fun y hy => Or.inr (HX.out y hy)))).toBelow
  obtain ⟨b, o, rfl, hl, hc⟩ := HF.out.2 (by omega)
  have h1 := (hkwz.cell b _ hl (by simp)).trans (hc i hlt).1
  have h2 := (hkwz.cell b _ hl (by simp)).trans (hc i hlt).2
  obtain ⟨yi, yo, en⟩ : ∃ yi yo, gp f i = ⟨yi, yo⟩ := ⟨_, _, rfl⟩
  rw [en] at h1 h2
  have hlr : b < wz.heap.size := Nat.lt_of_lt_of_le hl hkwz.size
  have hi9 : (i : Int) < (n : Int) := by omega
  have HS : Hid (apI f l (i + 1) = apI f l i ++ (if yo ≠ 0 ∧ (yi = 0 ∨ yi ∈ l) then [yo] else [])) := Lib.hid (by rw [apI_succ (by rw [HLF.out]; exact hlt), en])
  have HKY := Lib.hid (Tryz.keyInt yi (by have := HWP.out _ (gp_mem (l := f) (i := i) (by rw [HLF.out]; exact hlt)); rw [en] at this; exact this))
  clear hc en
  go_upto_region 12 with fail
  refine wp_named (fun X => ∃ g, wz.heap.size = g ∧ Blk X g [.int .i64 yi, .int .i64 yo] ∧ Kept [] wz X) ⟨_, rfl, Blk.new _ _ _ _ rfl, (Kept.refl _ _).alloc _⟩ ?_
  rintro X ⟨g, eg, Bg, hkX⟩
  rw [eg]
  have ⟨LG, CG, FG⟩ := Bg
  have hkrX : Kept [] wr X := keptTrans hkz hkX
  have OWX := Lib.hid (own_keptT (X := []) own.out hkX (by simp))
  have MX := Lib.hid (MP2.out.kept hkrX (by simp))
  have hsX := hkrX.size
  clear eg h1 h2 hlr own
  have HAP := Lib.hid (ints_snoc (apI f l i) yo)
  by_cases q0 : yo = 0
  · have z0 : (yo != 0) = false := by simp [q0]
    have HS2 : Hid (apI f l (i + 1) = apI f l i) := Lib.hid (by rw [HS.out, if_neg (fun h => h.1 q0), List.append_nil])
    clear q0
    go_wp2_with fail
    exact ⟨⟨i + 1, Q, k, cQ, by omega, by go_num, rfl, hkrX, by rw [HS2.out, HOK.out], by omega, by rw [HS2.out]; exact OWX⟩, by simp [intOf]; omega⟩
  have z0 : (yo != 0) = true := by simpa using q0
  obtain ⟨v, hv⟩ : ∃ v, decide (yi = 0 ∨ yi ∈ l) = v := ⟨_, rfl⟩
  have HV := Lib.hid (show mbF l j (.int .i64 yi) = .bool v by rw [mbF_all HLG.out, hv])
  have HV2 := Lib.hid hv
  clear hv
  cases v with
  | true =>
    have HS2 : Hid (apI f l (i + 1) = apI f l i ++ [yo]) := Lib.hid (by rw [HS.out, if_pos ⟨q0, of_decide_eq_true HV2.out⟩])
    clear q0
    go_wp2_with (first
      | (at_lookup; refine wpList_look_boolg _ rfl _ _ 115 rfl 3 4 Tryz.lawInt mapIB Tryz.undBool (Tryz.zeroBool _) p (1 + j) _ rfl MX.out (.int .i64 yi) _ rfl HKY.out true HV.out ?_)
      | (at_builtin; refine wpList_append_rd _ rfl _ _ 30 rfl wr.heap.size 3 i1 (.int .i64 0) 1 8 Tryz.underlying30 hj hy0 hy1 hy2 rfl (by decide) (.slice Q k cQ) k _ rfl (own_keptT (X := []) OWX.out ((Kept.refl _ _).alloc _) (by simp)) (some ⟨X.heap.size, 0, none⟩) 1 1 [.int .i64 yo] rfl (Rd.new1 _ _ _ _ rfl) (fun h => by cases h) (by intro u hu; simp at hu; subst hu; rfl) (k + 1) rfl _ HAP.out (by unfold maxLen; omega) (by omega) (by simp; omega) ?_; intro A9 c9 w9 hown4 hk4 hat4; have hk5 := Lib.hid ((hkrX.alloc (.cells #[.int .i64 yo] 3)).next hk4 (fun y hy => Or.inr (HX.out y hy))); have HO4 := Lib.hid hown4; clear hown4 hk4 hat4))
    exact ⟨⟨i + 1, A9, k + 1, c9, by omega, by go_num, rfl, hk5.out, by rw [HS2.out, List.length_append, HOK.out]; rfl, by omega, by rw [HS2.out]; exact HO4⟩, by simp [intOf]; omega⟩
  | false =>
    have HS2 : Hid (apI f l (i + 1) = apI f l i) := Lib.hid (by rw [HS.out, if_neg (fun h => of_decide_eq_false HV2.out h.2), List.append_nil])
    clear q0
    go_wp2_with (at_lookup; refine wpList_look_boolg _ rfl _ _ 115 rfl 3 4 Tryz.lawInt mapIB Tryz.undBool (Tryz.zeroBool _) p (1 + j) _ rfl MX.out (.int .i64 yi) _ rfl HKY.out false HV.out ?_)
    exact ⟨⟨i + 1, Q, k, cQ, by omega, by go_num, rfl, hkrX, by rw [HS2.out, HOK.out], by omega, by rw [HS2.out]; exact OWX⟩, by simp [intOf]; omega⟩
end Go.Proofs.YtffkikhknabddaaGreat
