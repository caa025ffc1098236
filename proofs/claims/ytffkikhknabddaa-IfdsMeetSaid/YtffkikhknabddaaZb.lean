/- A pack of texts: Xb Xc Yr Yc. -/
import Derived.Test.YtffkikhknabddaaZw
import Derived.Test.YtffkikhknabddaaKl
import Derived.Test.YtffkikhknabddaaZf
import Derived.Test.YtffkikhknabddaaZa
/- Lists of facts in memory; the contract of the reference's WithFact. (Printed by genXb.py.) -/
namespace Go.Df
open Go.RowKit
theorem ints_snoc (l : List Int) (x : Int) : l.map (Value.int .i64) ++ [.int .i64 x] = (l ++ [x]).map (Value.int .i64) := by simp
theorem Ints.ofOwn {w : World} {base : Nat} {e : TypeId} {A : Option Addr} {n c : Nat} {l : List Int} (h : w.ownsRow base e 1 (.slice A n c) n (l.map (Value.int .i64))) : Ints w A n l ∧ n ≤ c := by
  have hl : l.length = n := by simpa using h.1
  by_cases h0 : 0 < n
  · obtain ⟨g, c', hv, hb, hg, hc, -, hcell, -⟩ := own_cellsT h h0
    injection hv with e1 e2 e3
    subst e1
    subst e3
    refine ⟨⟨hl, fun _ => ⟨g, 0, rfl, hg, fun i hi => ?_⟩⟩, hc⟩
    rw [Nat.zero_add, hcell i (by omega), List.getElem?_map, List.getElem?_eq_getElem (by omega), gi_lt (by omega)]
    rfl
  · exact ⟨⟨hl, fun h => absurd h h0⟩, by omega⟩
/-- A list of facts comes back. -/
def GetF (w : World) (l : List Int) (e : Ending) (w' : World) : Prop := ∃ A n c, e = .returned (.slice A n c) ∧ Ints w' A n l ∧ n ≤ c ∧ Below w.heap.size w w'
end Go.Df
namespace Go.Proofs.Ytffkikhknabddaa
open Go.RowKit Go.Df Go.Df.If
attribute [local go_sem ↓] Go.wp_at_zero Go.wp_at_succ
theorem intf_info : (Try.prog.info? 3).map (fun i => (i.zero, i.size, i.bytes)) = some (some (.int .i64 0), 1, 8) := by kernel_rfl

set_option maxRecDepth 100000 in
set_option maxHeartbeats 8000000 in
theorem rwithf_any (A : Option Addr) (n c : Nat) (l : List Int) (x : Int) (w : World) (hp : Ints w A n l) (hn : n ≤ 100000) (hnc : n ≤ c) :
    Calls Try.prog 126 #[.slice A n c, .int .i64 x] w (GetF w (withF l x)) := by
  obtain ⟨i1, hj, hy0, hy1, hy2⟩ := info_parts intf_info
  have HP := Lib.hid hp
  have HL := Lib.hid hp.1
  clear hp
  go_enter Try.func126, Try.ntmps126
  go_wp2_with fail
  go_loopw [5, 6, 7] (fun s5 s6 s7 wr => ∃ (i : Nat) (B : Option Addr) (k cB : Nat) (o : List Int) (pt : Bool), i ≤ n ∧ s7 = .int .i64 i ∧ s6 = .bool pt ∧ s5 = .slice B k cB ∧ Kept [] w wr ∧ Hid (wfi x l i = (o, pt)) ∧ o.length = k ∧ k ≤ 2 * i ∧ Hid (wr.ownsRow w.heap.size 3 1 (.slice B k cB) k (o.map (Value.int .i64))) ∧ Hid (∀ j, j < i → gi l j ≠ x)) (fun _ _ s7 _ => n - (intOf s7).toNat)
  case atStart => exact ⟨0, none, 0, 0, [], false, Nat.zero_le _, rfl, rfl, rfl, Kept.refl _ _, Lib.hid rfl, rfl, by omega, Lib.hid (World.ownsRow_nil _ _ _ _), Lib.hid (fun j h => absurd h (by omega))⟩
  case round =>
  obtain ⟨i, B, k, cB, o, pt, hi', rfl, rfl, rfl, hkr, HW, hok, hki, own, HNE⟩ := hrel
  have hsr := hkr.size
  have HOK := Lib.hid hok
  have HX : Hid (∀ y ∈ (Value.slice B k cB).ownBlock.toList, w.heap.size ≤ y) := (fun y hy => own_ge own.out (by simpa using hy))
  clear hok
  by_cases hlt : i < n
  case neg =>
    obtain rfl : i = n := by omega
    have HNM : Hid (¬ x ∈ l) := Lib.hid (fun hm => by
      obtain ⟨j, hj, e⟩ := List.getElem_of_mem hm
      exact HNE.out j (by rw [← HL.out]; exact hj) (by rw [gi_lt hj]; exact e))
    have HWL : Hid (wfl x l = (o, pt)) := Lib.hid (by rw [← wfi_all (Nat.le_of_eq HL.out)]; exact HW.out)
    cases pt with
    | true =>
      have HR : Hid (withF l x = o) := Lib.hid (by unfold withF; rw [if_neg HNM.out, HWL.out, if_pos rfl])
      go_wp2_with fail
      go_ret
      obtain ⟨h1, h2⟩ := Ints.ofOwn own.out
      exact ⟨B, k, cB, rfl, by rw [HR.out]; exact h1, h2, hkr.toBelow⟩
    | false =>
      have HR : Hid (withF l x = o ++ [x]) := Lib.hid (by unfold withF; rw [if_neg HNM.out, HWL.out, if_neg (by simp)])
      have HAP := Lib.hid (ints_snoc o x)
      go_wp2_with (at_builtin; refine wpList_append_rd _ rfl _ _ 26 rfl w.heap.size 3 i1 (.int .i64 0) 1 8 Try.underlying26 hj hy0 hy1 hy2 rfl (by decide) (.slice B k cB) k _ rfl (own_keptT (X := []) own.out ((Kept.refl _ _).alloc _) (by simp)) (some ⟨wr.heap.size, 0, none⟩) 1 1 [.int .i64 x] rfl (Rd.new1 _ _ _ _ rfl) (fun h => by cases h) (by intro u hu; simp at hu; subst hu; rfl) (k + 1) rfl _ HAP.out (by unfold maxLen; omega) (by omega) (by simp; omega) ?_; intro A9 c9 w9 hown4 hk4 hat4; have hk5 := Lib.hid ((hkr.alloc (.cells #[.int .i64 x] 3)).next hk4 (fun y hy => Or.inr (HX.out y hy))); have HO4 := Lib.hid hown4; clear hown4 hk4 hat4)
      go_ret
      obtain ⟨h1, h2⟩ := Ints.ofOwn (l := o ++ [x]) HO4.out
      exact ⟨A9, k + 1, c9, rfl, by rw [HR.out]; exact h1, h2, hk5.out.toBelow⟩
  obtain ⟨b, o1, rfl, hl0, hc⟩ := HP.out.2 (by omega)
  have hl : b < wr.heap.size := Nat.lt_of_lt_of_le hl0 hsr
  have h1 := (hkr.cell b _ hl0 (by simp)).trans (hc i hlt)
  obtain ⟨y, en⟩ : ∃ y, gi l i = y := ⟨_, rfl⟩
  rw [en] at h1
  have HEN := Lib.hid en
  have hi9 : (i : Int) < (n : Int) := by omega
  clear hc en
  by_cases heq : y = x
  · subst heq
    have HR : Hid (withF l y = l) := Lib.hid (by
      unfold withF
      rw [if_pos (by rw [← HEN.out, gi_lt (by rw [HL.out]; exact hlt)]; exact List.getElem_mem _)])
    go_wp2_with fail
    go_ret
    exact ⟨_, n, c, rfl, by rw [HR.out]; exact HP.out.kept hkr, hnc, hkr.toBelow⟩
  have z0 : (y == x) = false := by simpa using heq
  have HNE2 : Hid (∀ j, j < i + 1 → gi l j ≠ x) := Lib.hid (fun j hj => by
    rcases Nat.lt_or_ge j i with h9 | h9
    · exact HNE.out j h9
    · have hji : j = i := by omega
      rw [hji, HEN.out]
      exact heq)
  have HWS : Hid (wfi x l (i + 1) = wfs x (o, pt) y) := Lib.hid (by rw [wfi_succ (by rw [HL.out]; exact hlt), HW.out, HEN.out])
  clear heq
  have HAP := Lib.hid (ints_snoc o y)
  cases pt with
  | true =>
    have HW2 : Hid (wfi x l (i + 1) = (o ++ [y], true)) := Lib.hid (by rw [HWS.out]; unfold wfs; rw [if_neg (by simp)])
    go_wp2_with (at_builtin; refine wpList_append_rd _ rfl _ _ 26 rfl w.heap.size 3 i1 (.int .i64 0) 1 8 Try.underlying26 hj hy0 hy1 hy2 rfl (by decide) (.slice B k cB) k _ rfl (own_keptT (X := []) own.out ((Kept.refl _ _).alloc _) (by simp)) (some ⟨wr.heap.size, 0, none⟩) 1 1 [.int .i64 y] rfl (Rd.new1 _ _ _ _ rfl) (fun h => by cases h) (by intro u hu; simp at hu; subst hu; rfl) (k + 1) rfl _ HAP.out (by unfold maxLen; omega) (by omega) (by simp; omega) ?_; intro A9 c9 w9 hown4 hk4 hat4; have hk5 := Lib.hid ((hkr.alloc (.cells #[.int .i64 y] 3)).next hk4 (fun y hy => Or.inr (HX.out y hy))); have HO4 := Lib.hid hown4; clear hown4 hk4 hat4)
    exact ⟨⟨i + 1, A9, k + 1, c9, o ++ [y], true, by omega, by go_num, rfl, rfl, hk5.out, HW2, by rw [List.length_append, HOK.out]; rfl, by omega, HO4, HNE2⟩, by simp [intOf]; omega⟩
  | false =>
    by_cases hxy : x < y
    · have z1 : decide (x < y) = true := by simpa using hxy
      have HW2 : Hid (wfi x l (i + 1) = (o ++ [x] ++ [y], true)) := Lib.hid (by rw [HWS.out]; unfold wfs; rw [if_pos ⟨rfl, hxy⟩])
      have HAPx := Lib.hid (ints_snoc o x)
      have HAPy := Lib.hid (ints_snoc (o ++ [x]) y)
      clear hxy
      go_upto_region 10 with (at_builtin; refine wpList_append_rd _ rfl _ _ 26 rfl w.heap.size 3 i1 (.int .i64 0) 1 8 Try.underlying26 hj hy0 hy1 hy2 rfl (by decide) (.slice B k cB) k _ rfl (own_keptT (X := []) own.out ((Kept.refl _ _).alloc _) (by simp)) (some ⟨wr.heap.size, 0, none⟩) 1 1 [.int .i64 x] rfl (Rd.new1 _ _ _ _ rfl) (fun h => by cases h) (by intro u hu; simp at hu; subst hu; rfl) (k + 1) rfl _ HAPx.out (by unfold maxLen; omega) (by omega) (by simp; omega) ?_; intro A8 c8 w8 hown4 hk4 hat4; have hk8 := Lib.hid ((hkr.alloc (.cells #[.int .i64 x] 3)).next hk4 (fun y hy => Or.inr (HX.out y hy))); have HO8 := Lib.hid hown4; clear hown4 hk4 hat4)
      have HX8 : Hid (∀ y ∈ (Value.slice A8 (k + 1) c8).ownBlock.toList, w.heap.size ≤ y) := (fun y hy => own_ge HO8.out (by simpa using hy))
      have hs8 := hk8.out.size
      have hl8 : b < w8.heap.size := Nat.lt_of_lt_of_le hl0 hs8
      have h18 := (hk8.out.cell b _ hl0 (by simp)).trans ((hkr.cell b _ hl0 (by simp)).symm.trans h1)
      go_wp2_with (at_builtin; refine wpList_append_rd _ rfl _ _ 26 rfl w.heap.size 3 i1 (.int .i64 0) 1 8 Try.underlying26 hj hy0 hy1 hy2 rfl (by decide) (.slice A8 (k + 1) c8) (k + 1) _ rfl (own_keptT (X := []) HO8.out ((Kept.refl _ _).alloc _) (by simp)) (some ⟨w8.heap.size, 0, none⟩) 1 1 [.int .i64 y] rfl (Rd.new1 _ _ _ _ rfl) (fun h => by cases h) (by intro u hu; simp at hu; subst hu; rfl) ((k + 1) + 1) rfl _ HAPy.out (by unfold maxLen; omega) (by omega) (by simp; omega) ?_; intro A9 c9 w9 hown4 hk4 hat4; have hk5 := Lib.hid ((hk8.out.alloc (.cells #[.int .i64 y] 3)).next hk4 (fun y hy => Or.inr (HX8.out y hy))); have HO4 := Lib.hid hown4; clear hown4 hk4 hat4)
      exact ⟨⟨i + 1, A9, k + 1 + 1, c9, o ++ [x] ++ [y], true, by omega, by go_num, rfl, rfl, hk5.out, HW2, by rw [List.length_append, List.length_append, HOK.out]; rfl, by omega, HO4, HNE2⟩, by simp [intOf]; omega⟩
    · have z1 : decide (x < y) = false := by simpa using hxy
      have HW2 : Hid (wfi x l (i + 1) = (o ++ [y], false)) := Lib.hid (by rw [HWS.out]; unfold wfs; rw [if_neg (by simp [hxy])])
      clear hxy
      go_wp2_with (at_builtin; refine wpList_append_rd _ rfl _ _ 26 rfl w.heap.size 3 i1 (.int .i64 0) 1 8 Try.underlying26 hj hy0 hy1 hy2 rfl (by decide) (.slice B k cB) k _ rfl (own_keptT (X := []) own.out ((Kept.refl _ _).alloc _) (by simp)) (some ⟨wr.heap.size, 0, none⟩) 1 1 [.int .i64 y] rfl (Rd.new1 _ _ _ _ rfl) (fun h => by cases h) (by intro u hu; simp at hu; subst hu; rfl) (k + 1) rfl _ HAP.out (by unfold maxLen; omega) (by omega) (by simp; omega) ?_; intro A9 c9 w9 hown4 hk4 hat4; have hk5 := Lib.hid ((hkr.alloc (.cells #[.int .i64 y] 3)).next hk4 (fun y hy => Or.inr (HX.out y hy))); have HO4 := Lib.hid hown4; clear hown4 hk4 hat4)
      exact ⟨⟨i + 1, A9, k + 1, c9, o ++ [y], false, by omega, by go_num, rfl, rfl, hk5.out, HW2, by rw [List.length_append, HOK.out]; rfl, by omega, HO4, HNE2⟩, by simp [intOf]; omega⟩
end Go.Proofs.Ytffkikhknabddaa
/- The contracts of the reference's join, seedsAt and Apply. (Printed by genXc.py.) -/
namespace Go.Proofs.Ytffkikhknabddaa
open Go.RowKit Go.Df Go.Df.If
attribute [local go_sem ↓] Go.wp_at_zero Go.wp_at_succ

set_option maxRecDepth 100000 in
set_option maxHeartbeats 4000000 in
theorem rjoin_any (A B : Option Addr) (n c m d : Nat) (la lb : List Int) (w : World) (hA : Ints w A n la) (hB : Ints w B m lb) (hn : n ≤ 10000) (hm : m ≤ 10000) :
    Calls Try.prog 96 #[.slice A n c, .slice B m d] w (GetF w (joinF la lb)) := by
  have HF := Lib.hid hA
  have HG := Lib.hid hB
  have HLF := Lib.hid hA.1
  have HLG := Lib.hid hB.1
  clear hA hB
  go_enter Try.func96, Try.ntmps96
  go_wp2_with fail
  go_loopw [5, 6] (fun s5 s6 wr => ∃ (i : Nat) (Q : Option Addr) (k cQ : Nat), i ≤ n ∧ s6 = .int .i64 i ∧ s5 = .slice Q k cQ ∧ Kept [] w wr ∧ Hid (Ints wr Q k (foF la [] i)) ∧ k ≤ cQ ∧ k ≤ i) (fun _ s6 _ => n - (intOf s6).toNat)
  case atStart => exact ⟨0, none, 0, 0, Nat.zero_le _, rfl, rfl, Kept.refl _ _, Lib.hid (Ints.empty _ _), by omega, by omega⟩
  case round =>
  obtain ⟨i, Q, k, cQ, hi, rfl, rfl, hkr, HQ, hkc, hki⟩ := hrel
  by_cases hlt : i < n
  · obtain ⟨b, o, rfl, hl, hc⟩ := HF.out.2 (by omega)
    have h1 := (hkr.cell b _ hl (by simp)).trans (hc i hlt)
    obtain ⟨y, en⟩ : ∃ y, gi la i = y := ⟨_, rfl⟩
    rw [en] at h1
    have hlr : b < wr.heap.size := Nat.lt_of_lt_of_le hl hkr.size
    have HS : Hid (foF la [] (i + 1) = withF (foF la [] i) y) := Lib.hid (by rw [foF_succ (by rw [HLF.out]; exact hlt), en])
    have hi9 : (i : Int) < (n : Int) := by omega
    clear hc en
    go_wp2_with (go_at_call 126; refine (rwithf_any Q k cQ _ y _ HQ.out (by omega) hkc).mono ?_; rintro e w3 ⟨Q3, k3, c3, rfl, hq3, hk3, hb3⟩)
    have hlen : k3 ≤ i + 1 := by
      have h7 := foF_len la [] (i + 1)
      rw [HS.out, hq3.1] at h7
      simpa using h7
    exact ⟨⟨i + 1, Q3, k3, c3, by omega, by go_num, rfl, hkr.call hb3, Lib.hid (by rw [HS.out]; exact hq3), hk3, hlen⟩, by simp [intOf]; omega⟩
  obtain rfl : i = n := by omega
  have HU : Hid (foF la [] i = la.foldl withF []) := Lib.hid (foF_all (Nat.le_of_eq HLF.out))
  obtain ⟨s, hs⟩ : ∃ s, la.foldl withF [] = s := ⟨_, rfl⟩
  rw [HU.out, hs] at HQ
  have HSS := Lib.hid hs
  clear hs hlt
  go_wp2_with fail
  go_loopw [5, 7] (fun s5 s7 wz => ∃ (j : Nat) (Q' : Option Addr) (k' cQ' : Nat), j ≤ m ∧ s7 = .int .i64 j ∧ s5 = .slice Q' k' cQ' ∧ Kept [] w wz ∧ Hid (Ints wz Q' k' (foF lb s j)) ∧ k' ≤ cQ' ∧ k' ≤ i + j) (fun _ s7 _ => m - (intOf s7).toNat)
  case atStart => exact ⟨0, Q, k, cQ, Nat.zero_le _, rfl, rfl, hkr, HQ, hkc, by omega⟩
  case round =>
  rename World => wz
  obtain ⟨j, Q', k', cQ', hj, rfl, rfl, hkz, HQ', hkc', hkj⟩ := hrel
  by_cases hlt : j < m
  · obtain ⟨b, o, rfl, hl, hc⟩ := HG.out.2 (by omega)
    have h1 := (hkz.cell b _ hl (by simp)).trans (hc j hlt)
    obtain ⟨y, en⟩ : ∃ y, gi lb j = y := ⟨_, rfl⟩
    rw [en] at h1
    have hlr : b < wz.heap.size := Nat.lt_of_lt_of_le hl hkz.size
    have HS : Hid (foF lb s (j + 1) = withF (foF lb s j) y) := Lib.hid (by rw [foF_succ (by rw [HLG.out]; exact hlt), en])
    have hj9 : (j : Int) < (m : Int) := by omega
    have hsl : s.length = k := HQ.out.1
    have HSL := Lib.hid hsl
    clear hc en hsl
    go_wp2_with (go_at_call 126; refine (rwithf_any Q' k' cQ' _ y _ HQ'.out (by omega) hkc').mono ?_; rintro e w3 ⟨Q3, k3, c3, rfl, hq3, hk3, hb3⟩)
    have hlen : k3 ≤ i + (j + 1) := by
      have h7 := foF_len lb s (j + 1)
      rw [HS.out, hq3.1, HSL.out] at h7
      omega
    exact ⟨⟨j + 1, Q3, k3, c3, by omega, by go_num, rfl, hkz.call hb3, Lib.hid (by rw [HS.out]; exact hq3), hk3, hlen⟩, by simp [intOf]; omega⟩
  obtain rfl : j = m := by omega
  have HE : Hid (foF lb s j = joinF la lb) := Lib.hid (by rw [foF_all (Nat.le_of_eq HLG.out)]; unfold joinF ascF; rw [List.foldl_append, HSS.out])
  go_wp2_with fail
  go_ret
  exact ⟨Q', k', cQ', rfl, by rw [← HE.out]; exact HQ'.out, hkc', hkz.toBelow⟩

set_option maxRecDepth 100000 in
set_option maxHeartbeats 4000000 in
theorem rseedsat_any (A1 A2 A3 A4 : Option Addr) (n1 c1 n2 c2 n3 c3 n4 c4 : Nat) (mn FF nd : Int) (sd : List Sd) (w : World) (hs : Sds w A4 n4 sd) (hn4 : n4 ≤ 1000000) :
    Calls Try.prog 92 #[.agg #[.slice A1 n1 c1, .slice A2 n2 c2, .int .i64 mn, .int .i64 FF, .slice A3 n3 c3, .slice A4 n4 c4], .int .i64 nd] w (GetF w (seedF sd nd)) := by
  obtain ⟨i1, hj, hy0, hy1, hy2⟩ := info_parts intf_info
  have HP := Lib.hid hs
  have HL := Lib.hid hs.1
  clear hs
  go_enter Try.func92, Try.ntmps92
  go_upto_region 1 with fail
  refine wp_named (fun W => ∃ b0, w.heap.size = b0 ∧ Blk W b0 [.slice A1 n1 c1, .slice A2 n2 c2, .int .i64 mn, .int .i64 FF, .slice A3 n3 c3, .slice A4 n4 c4] ∧ Below w.heap.size w W) ⟨_, rfl, ?_, ?_⟩ ?_
  · exact Blk.new _ _ _ _ (by first | rfl | simp)
  · go_grown
  rintro W ⟨b0, e0, B0, hB⟩
  rw [e0]
  have G0 : w.heap.size ≤ b0 := by omega
  clear e0
  have ⟨L0, C0, F0⟩ := B0
  have hkW : Kept [] w W := (Kept.refl _ _).call hB
  go_wp2_with fail
  go_loopw [5, 6] (fun s5 s6 wr => ∃ (i : Nat) (B : Option Addr) (k cB : Nat), i ≤ n4 ∧ s6 = .int .i64 i ∧ s5 = .slice B k cB ∧ Kept [] W wr ∧ (seedI sd nd i).length = k ∧ k ≤ i ∧ Hid (wr.ownsRow W.heap.size 3 1 (.slice B k cB) k ((seedI sd nd i).map (Value.int .i64)))) (fun _ s6 _ => n4 - (intOf s6).toNat)
  case atStart => exact ⟨0, none, 0, 0, Nat.zero_le _, rfl, rfl, Kept.refl _ _, rfl, by omega, Lib.hid (World.ownsRow_nil _ _ _ _)⟩
  case round =>
  clear C0 F0
  obtain ⟨i, B, k, cB, hi, rfl, rfl, hkr, hok, hki, own⟩ := hrel
  have ⟨L0r, C0r, F0r⟩ := hkr.blk (by simp) B0
  have hkwr : Kept [] w wr := keptTrans hkW hkr
  have hsr := hkr.size
  have HOK := Lib.hid hok
  have HX : Hid (∀ y ∈ (Value.slice B k cB).ownBlock.toList, W.heap.size ≤ y) := (fun y hy => own_ge own.out (by simpa using hy))
  clear hok
  by_cases hlt : i < n4
  case neg =>
    obtain rfl : i = n4 := by omega
    go_wp2_with fail
    go_ret
    obtain ⟨h1, h2⟩ := Ints.ofOwn own.out
    exact ⟨B, k, cB, rfl, by rw [← seedI_all (Nat.le_of_eq HL.out)]; exact h1, h2, hkwr.toBelow⟩
  obtain ⟨b, o1, rfl, hl0, hc⟩ := HP.out.2 (by omega)
  have hl : b < wr.heap.size := Nat.lt_of_lt_of_le hl0 hkwr.size
  have h1 := (hkwr.cell b _ hl0 (by simp)).trans (hc i hlt).1
  have h2 := (hkwr.cell b _ hl0 (by simp)).trans (hc i hlt).2
  obtain ⟨sn, sf, en⟩ : ∃ sn sf, gd sd i = ⟨sn, sf⟩ := ⟨_, _, rfl⟩
  rw [en] at h1 h2
  have hi9 : (i : Int) < (n4 : Int) := by omega
  have HS : Hid (seedI sd nd (i + 1) = seedI sd nd i ++ (if sn = nd then [sf] else [])) := Lib.hid (by rw [seedI_succ (by rw [HL.out]; exact hlt), en])
  clear hc en
  by_cases heq : sn = nd
  · have z0 : (sn == nd) = true := by simpa using heq
    have HS2 : Hid (seedI sd nd (i + 1) = seedI sd nd i ++ [sf]) := Lib.hid (by rw [HS.out, if_pos heq])
    have HAP := Lib.hid (ints_snoc (seedI sd nd i) sf)
    clear heq
    go_wp2_with (at_builtin; refine wpList_append_rd _ rfl _ _ 26 rfl W.heap.size 3 i1 (.int .i64 0) 1 8 Try.underlying26 hj hy0 hy1 hy2 rfl (by decide) (.slice B k cB) k _ rfl (own_keptT (X := []) own.out ((Kept.refl _ _).alloc _) (by simp)) (some ⟨wr.heap.size, 0, none⟩) 1 1 [.int .i64 sf] rfl (Rd.new1 _ _ _ _ rfl) (fun h => by cases h) (by intro u hu; simp at hu; subst hu; rfl) (k + 1) rfl _ HAP.out (by unfold maxLen; omega) (by omega) (by simp; omega) ?_; intro A9 c9 w9 hown4 hk4 hat4; have hk5 := Lib.hid ((hkr.alloc (.cells #[.int .i64 sf] 3)).next hk4 (fun y hy => Or.inr (HX.out y hy))); have HO4 := Lib.hid hown4; clear hown4 hk4 hat4)
    exact ⟨⟨i + 1, A9, k + 1, c9, by omega, by go_num, rfl, hk5.out, by rw [HS2.out, List.length_append, HOK.out]; rfl, by omega, by rw [HS2.out]; exact HO4⟩, by simp [intOf]; omega⟩
  · have z0 : (sn == nd) = false := by simpa using heq
    have HS2 : Hid (seedI sd nd (i + 1) = seedI sd nd i) := Lib.hid (by rw [HS.out, if_neg heq, List.append_nil])
    clear heq
    go_wp2_with fail
    exact ⟨⟨i + 1, B, k, cB, by omega, by go_num, rfl, hkr, by rw [HS2.out, HOK.out], by omega, by rw [HS2.out]; exact own⟩, by simp [intOf]; omega⟩

set_option maxRecDepth 100000 in
set_option maxHeartbeats 4000000 in
theorem rapply_any (A B : Option Addr) (n c m d : Nat) (f : List Pr) (l : List Int) (w : World) (hf : Prs w A n f) (hB : Ints w B m l) (hn : n ≤ 10000) (hm : m ≤ 100000) :
    Calls Try.prog 81 #[.slice A n c, .slice B m d] w (GetF w (applyF f l)) := by
  have HF := Lib.hid hf
  have HG := Lib.hid hB
  have HLF := Lib.hid hf.1
  clear hf hB
  go_enter Try.func81, Try.ntmps81
  go_wp2_with fail
  go_loopw [5, 6] (fun s5 s6 wr => ∃ (i : Nat) (Q : Option Addr) (k cQ : Nat), i ≤ n ∧ s6 = .int .i64 i ∧ s5 = .slice Q k cQ ∧ Kept [] w wr ∧ Hid (Ints wr Q k (ascF (apI f l i))) ∧ k ≤ cQ ∧ k ≤ i) (fun _ s6 _ => n - (intOf s6).toNat)
  case atStart => exact ⟨0, none, 0, 0, Nat.zero_le _, rfl, rfl, Kept.refl _ _, Lib.hid (Ints.empty _ _), by omega, by omega⟩
  case round =>
  obtain ⟨i, Q, k, cQ, hi, rfl, rfl, hkr, HQ, hkc, hki⟩ := hrel
  by_cases hlt : i < n
  case neg =>
    obtain rfl : i = n := by omega
    have HU : Hid (ascF (apI f l i) = applyF f l) := Lib.hid (by rw [apI_all (Nat.le_of_eq HLF.out)]; rfl)
    go_wp2_with fail
    go_ret
    exact ⟨Q, k, cQ, rfl, by rw [← HU.out]; exact HQ.out, hkc, hkr.toBelow⟩
  obtain ⟨b, o, rfl, hl, hc⟩ := HF.out.2 (by omega)
  have h1 := (hkr.cell b _ hl (by simp)).trans (hc i hlt).1
  have h2 := (hkr.cell b _ hl (by simp)).trans (hc i hlt).2
  obtain ⟨yi, yo, en⟩ : ∃ yi yo, gp f i = ⟨yi, yo⟩ := ⟨_, _, rfl⟩
  rw [en] at h1 h2
  have hlr : b < wr.heap.size := Nat.lt_of_lt_of_le hl hkr.size
  have hi9 : (i : Int) < (n : Int) := by omega
  have HS : Hid (apI f l (i + 1) = apI f l i ++ (if yo ≠ 0 ∧ (yi = 0 ∨ yi ∈ l) then [yo] else [])) := Lib.hid (by rw [apI_succ (by rw [HLF.out]; exact hlt), en])
  clear hc en
  by_cases q0 : yo = 0
  · have z0 : (yo != 0) = false := by simp [q0]
    have HS2 : Hid (apI f l (i + 1) = apI f l i) := Lib.hid (by rw [HS.out, if_neg (fun h => h.1 q0), List.append_nil])
    clear q0
    go_wp2_with fail
    exact ⟨⟨i + 1, Q, k, cQ, by omega, by go_num, rfl, hkr, Lib.hid (by rw [HS2.out]; exact HQ.out), hkc, by omega⟩, by simp [intOf]; omega⟩
  have z0 : (yo != 0) = true := by simpa using q0
  by_cases q1 : yi = 0
  · have z1 : (yi == 0) = true := by simp [q1]
    have HS2 : Hid (ascF (apI f l (i + 1)) = withF (ascF (apI f l i)) yo) := Lib.hid (by rw [HS.out, if_pos ⟨q0, Or.inl q1⟩]; unfold ascF; rw [List.foldl_append]; rfl)
    have HLN : Hid ((apI f l (i + 1)).length ≤ i + 1) := Lib.hid (apI_len f l (i + 1))
    clear q0 q1
    go_wp2_with (go_at_call 126; refine (rwithf_any Q k cQ _ yo _ HQ.out (by omega) hkc).mono ?_; rintro e w3 ⟨Q3, k3, c3, rfl, hq3, hk3, hb3⟩)
    have hlen : k3 ≤ i + 1 := by
      have h7 := ascF_len (apI f l (i + 1))
      rw [HS2.out, hq3.1] at h7
      exact Nat.le_trans h7 HLN.out
    exact ⟨⟨i + 1, Q3, k3, c3, by omega, by go_num, rfl, hkr.call hb3, Lib.hid (by rw [HS2.out]; exact hq3), hk3, hlen⟩, by simp [intOf]; omega⟩
  have z1 : (yi == 0) = false := by simpa using q1
  by_cases q2 : yi ∈ l
  · have z2 : decide (yi ∈ l) = true := decide_eq_true q2
    have HZ := Lib.hid z2
    have HS2 : Hid (ascF (apI f l (i + 1)) = withF (ascF (apI f l i)) yo) := Lib.hid (by rw [HS.out, if_pos ⟨q0, Or.inr q2⟩]; unfold ascF; rw [List.foldl_append]; rfl)
    have HLN : Hid ((apI f l (i + 1)).length ≤ i + 1) := Lib.hid (apI_len f l (i + 1))
    clear q0 q1 q2 z2
    go_wp2_with (first
      | (go_at_call 78; refine (rhas_any B m d l yi _ (HG.out.kept hkr) (by omega)).mono ?_; rw [HZ.out]; rintro e w3 ⟨rfl, rfl⟩)
      | (go_at_call 126; refine (rwithf_any Q k cQ _ yo _ HQ.out (by omega) hkc).mono ?_; rintro e w3 ⟨Q3, k3, c3, rfl, hq3, hk3, hb3⟩))
    have hlen : k3 ≤ i + 1 := by
      have h7 := ascF_len (apI f l (i + 1))
      rw [HS2.out, hq3.1] at h7
      exact Nat.le_trans h7 HLN.out
    exact ⟨⟨i + 1, Q3, k3, c3, by omega, by go_num, rfl, hkr.call hb3, Lib.hid (by rw [HS2.out]; exact hq3), hk3, hlen⟩, by simp [intOf]; omega⟩
  · have z2 : decide (yi ∈ l) = false := decide_eq_false q2
    have HZ := Lib.hid z2
    have HS2 : Hid (apI f l (i + 1) = apI f l i) := Lib.hid (by rw [HS.out, if_neg (fun h => h.2.elim q1 q2), List.append_nil])
    clear q0 q1 q2 z2
    go_wp2_with (go_at_call 78; refine (rhas_any B m d l yi _ (HG.out.kept hkr) (by omega)).mono ?_; rw [HZ.out]; rintro e w3 ⟨rfl, rfl⟩)
    exact ⟨⟨i + 1, Q, k, cQ, by omega, by go_num, rfl, hkr, Lib.hid (by rw [HS2.out]; exact HQ.out), hkc, by omega⟩, by simp [intOf]; omega⟩
end Go.Proofs.Ytffkikhknabddaa
/- Where a path ends; how long an ascending list is. No program in sight. -/
namespace Go.Df
open Go.RowKit
namespace If
open Sp
theorem asc_len : ∀ (l : List Int) (a b : Int), l.Pairwise (· < ·) → (∀ y ∈ l, a < y ∧ y < b) → l.length = 0 ∨ (l.length : Int) ≤ b - a - 1
  | [], _, _, _, _ => .inl rfl
  | x :: l, a, b, h, h2 => by
    rw [List.pairwise_cons] at h
    have hx := h2 x (by simp)
    have h3 := asc_len l x b h.2 (fun y hy => ⟨h.1 y hy, (h2 y (List.mem_cons_of_mem _ hy)).2⟩)
    right
    rw [List.length_cons]
    rcases h3 with h3 | h3
    · rw [h3]; omega
    · omega
end If
end Go.Df
namespace Go.Proofs.Ytffkikhknabddaa
open Go.RowKit Go.Df Go.Df.If
def endS (es : List Sp.Ed) : Int → List Int → Int
  | a, [] => a
  | _, k :: r => endS es (ge es k.toNat).b r
theorem runS_end {es : List Sp.Ed} : ∀ (path : List Int) {a : Int} {cs : List Int}, (Sp.runS es a cs path).1 = 0 → (Sp.runS es a cs path).2.1 = endS es a path
  | [], _, _, _ => rfl
  | k :: r, a, cs, h => by
    rw [Sp.runS] at h ⊢
    split at h
    · rename_i h0; exact absurd h h0
    · rename_i h0
      rw [if_neg h0]
      have h1 : (Sp.stepS es a cs k).1 = 0 := Decidable.byContradiction h0
      rw [runS_end r h, endS]
      congr 1
      unfold Sp.stepS at h1 ⊢
      split at h1
      · cases h1
      · rename_i x1
        rw [if_neg x1]
        split at h1
        · cases h1
        · rename_i x2
          rw [if_neg x2]
          split at h1
          · rename_i x3
            rw [if_pos x3]
            split at h1
            · cases h1
            · rename_i x4
              rw [if_neg x4]
          · rename_i x3
            rw [if_neg x3]
            split <;> rfl
theorem endS_last {es : List Sp.Ed} : ∀ (path : List Int) (a : Int), 0 < path.length → endS es a path = (ge es (gi path (path.length - 1)).toNat).b
  | [], _, h => absurd h (by simp)
  | [k], _, _ => rfl
  | k :: l :: r, a, _ => by
    rw [endS, endS_last (l :: r) _ (by simp)]
    simp [gi]
end Go.Proofs.Ytffkikhknabddaa
/- The contracts of join, SeedsAt, Walk and Ends of dataflowref30. (Printed by genYc.py.) -/
namespace Go.Proofs.Ytffkikhknabddaa
open Go.RowKit Go.Df Go.Df.If
attribute [local go_sem ↓] Go.wp_at_zero Go.wp_at_succ

set_option maxRecDepth 100000 in
set_option maxHeartbeats 4000000 in
theorem rjoin30_any (A B : Option Addr) (n c m d : Nat) (la lb : List Int) (w : World) (hA : Ints w A n la) (hB : Ints w B m lb) (hn : n ≤ 10000) (hm : m ≤ 10000) :
    Calls Try.prog 79 #[.slice A n c, .slice B m d] w (GetF w (joinF la lb)) := by
  have HF := Lib.hid hA
  have HG := Lib.hid hB
  have HLF := Lib.hid hA.1
  have HLG := Lib.hid hB.1
  clear hA hB
  go_enter Try.func79, Try.ntmps79
  go_wp2_with fail
  go_loopw [5, 6] (fun s5 s6 wr => ∃ (i : Nat) (Q : Option Addr) (k cQ : Nat), i ≤ n ∧ s6 = .int .i64 i ∧ s5 = .slice Q k cQ ∧ Kept [] w wr ∧ Hid (Ints wr Q k (foF la [] i)) ∧ k ≤ cQ ∧ k ≤ i) (fun _ s6 _ => n - (intOf s6).toNat)
  case atStart => exact ⟨0, none, 0, 0, Nat.zero_le _, rfl, rfl, Kept.refl _ _, Lib.hid (Ints.empty _ _), by omega, by omega⟩
  case round =>
  obtain ⟨i, Q, k, cQ, hi, rfl, rfl, hkr, HQ, hkc, hki⟩ := hrel
  by_cases hlt : i < n
  · obtain ⟨b, o, rfl, hl, hc⟩ := HF.out.2 (by omega)
    have h1 := (hkr.cell b _ hl (by simp)).trans (hc i hlt)
    obtain ⟨y, en⟩ : ∃ y, gi la i = y := ⟨_, rfl⟩
    rw [en] at h1
    have hlr : b < wr.heap.size := Nat.lt_of_lt_of_le hl hkr.size
    have HS : Hid (foF la [] (i + 1) = withF (foF la [] i) y) := Lib.hid (by rw [foF_succ (by rw [HLF.out]; exact hlt), en])
    have hi9 : (i : Int) < (n : Int) := by omega
    clear hc en
    go_wp2_with (go_at_call 126; refine (rwithf_any Q k cQ _ y _ HQ.out (by omega) hkc).mono ?_; rintro e w3 ⟨Q3, k3, c3, rfl, hq3, hk3, hb3⟩)
    have hlen : k3 ≤ i + 1 := by
      have h7 := foF_len la [] (i + 1)
      rw [HS.out, hq3.1] at h7
      simpa using h7
    exact ⟨⟨i + 1, Q3, k3, c3, by omega, by go_num, rfl, hkr.call hb3, Lib.hid (by rw [HS.out]; exact hq3), hk3, hlen⟩, by simp [intOf]; omega⟩
  obtain rfl : i = n := by omega
  have HU : Hid (foF la [] i = la.foldl withF []) := Lib.hid (foF_all (Nat.le_of_eq HLF.out))
  obtain ⟨s, hs⟩ : ∃ s, la.foldl withF [] = s := ⟨_, rfl⟩
  rw [HU.out, hs] at HQ
  have HSS := Lib.hid hs
  clear hs hlt
  go_wp2_with fail
  go_loopw [5, 7] (fun s5 s7 wz => ∃ (j : Nat) (Q' : Option Addr) (k' cQ' : Nat), j ≤ m ∧ s7 = .int .i64 j ∧ s5 = .slice Q' k' cQ' ∧ Kept [] w wz ∧ Hid (Ints wz Q' k' (foF lb s j)) ∧ k' ≤ cQ' ∧ k' ≤ i + j) (fun _ s7 _ => m - (intOf s7).toNat)
  case atStart => exact ⟨0, Q, k, cQ, Nat.zero_le _, rfl, rfl, hkr, HQ, hkc, by omega⟩
  case round =>
  rename World => wz
  obtain ⟨j, Q', k', cQ', hj, rfl, rfl, hkz, HQ', hkc', hkj⟩ := hrel
  by_cases hlt : j < m
  · obtain ⟨b, o, rfl, hl, hc⟩ := HG.out.2 (by omega)
    have h1 := (hkz.cell b _ hl (by simp)).trans (hc j hlt)
    obtain ⟨y, en⟩ : ∃ y, gi lb j = y := ⟨_, rfl⟩
    rw [en] at h1
    have hlr : b < wz.heap.size := Nat.lt_of_lt_of_le hl hkz.size
    have HS : Hid (foF lb s (j + 1) = withF (foF lb s j) y) := Lib.hid (by rw [foF_succ (by rw [HLG.out]; exact hlt), en])
    have hj9 : (j : Int) < (m : Int) := by omega
    have hsl : s.length = k := HQ.out.1
    have HSL := Lib.hid hsl
    clear hc en hsl
    go_wp2_with (go_at_call 126; refine (rwithf_any Q' k' cQ' _ y _ HQ'.out (by omega) hkc').mono ?_; rintro e w3 ⟨Q3, k3, c3, rfl, hq3, hk3, hb3⟩)
    have hlen : k3 ≤ i + (j + 1) := by
      have h7 := foF_len lb s (j + 1)
      rw [HS.out, hq3.1, HSL.out] at h7
      omega
    exact ⟨⟨j + 1, Q3, k3, c3, by omega, by go_num, rfl, hkz.call hb3, Lib.hid (by rw [HS.out]; exact hq3), hk3, hlen⟩, by simp [intOf]; omega⟩
  obtain rfl : j = m := by omega
  have HE : Hid (foF lb s j = joinF la lb) := Lib.hid (by rw [foF_all (Nat.le_of_eq HLG.out)]; unfold joinF ascF; rw [List.foldl_append, HSS.out])
  go_wp2_with fail
  go_ret
  exact ⟨Q', k', cQ', rfl, by rw [← HE.out]; exact HQ'.out, hkc', hkz.toBelow⟩

set_option maxRecDepth 100000 in
set_option maxHeartbeats 4000000 in
theorem rseedsat30_any (A1 A2 A3 A4 : Option Addr) (n1 c1 n2 c2 n3 c3 n4 c4 : Nat) (mn FF nd : Int) (sd : List Sd) (w : World) (hs : Sds w A4 n4 sd) (hn4 : n4 ≤ 1000000) :
    Calls Try.prog 80 #[.agg #[.slice A1 n1 c1, .slice A2 n2 c2, .int .i64 mn, .int .i64 FF, .slice A3 n3 c3, .slice A4 n4 c4], .int .i64 nd] w (GetF w (seedF sd nd)) := by
  obtain ⟨i1, hj, hy0, hy1, hy2⟩ := info_parts intf_info
  have HP := Lib.hid hs
  have HL := Lib.hid hs.1
  clear hs
  go_enter Try.func80, Try.ntmps80
  go_upto_region 1 with fail
  refine wp_named (fun W => ∃ b0, w.heap.size = b0 ∧ Blk W b0 [.slice A1 n1 c1, .slice A2 n2 c2, .int .i64 mn, .int .i64 FF, .slice A3 n3 c3, .slice A4 n4 c4] ∧ Below w.heap.size w W) ⟨_, rfl, ?_, ?_⟩ ?_
  · exact Blk.new _ _ _ _ (by first | rfl | simp)
  · go_grown
  rintro W ⟨b0, e0, B0, hB⟩
  rw [e0]
  have G0 : w.heap.size ≤ b0 := by omega
  clear e0
  have ⟨L0, C0, F0⟩ := B0
  have hkW : Kept [] w W := (Kept.refl _ _).call hB
  go_wp2_with fail
  go_loopw [5, 6] (fun s5 s6 wr => ∃ (i : Nat) (B : Option Addr) (k cB : Nat), i ≤ n4 ∧ s6 = .int .i64 i ∧ s5 = .slice B k cB ∧ Kept [] W wr ∧ (seedI sd nd i).length = k ∧ k ≤ i ∧ Hid (wr.ownsRow W.heap.size 3 1 (.slice B k cB) k ((seedI sd nd i).map (Value.int .i64)))) (fun _ s6 _ => n4 - (intOf s6).toNat)
  case atStart => exact ⟨0, none, 0, 0, Nat.zero_le _, rfl, rfl, Kept.refl _ _, rfl, by omega, Lib.hid (World.ownsRow_nil _ _ _ _)⟩
  case round =>
  clear C0 F0
  obtain ⟨i, B, k, cB, hi, rfl, rfl, hkr, hok, hki, own⟩ := hrel
  have ⟨L0r, C0r, F0r⟩ := hkr.blk (by simp) B0
  have hkwr : Kept [] w wr := keptTrans hkW hkr
  have hsr := hkr.size
  have HOK := Lib.hid hok
  have HX : Hid (∀ y ∈ (Value.slice B k cB).ownBlock.toList, W.heap.size ≤ y) := (fun y hy => own_ge own.out (by simpa using hy))
  clear hok
  by_cases hlt : i < n4
  case neg =>
    obtain rfl : i = n4 := by omega
    go_wp2_with fail
    go_ret
    obtain ⟨h1, h2⟩ := Ints.ofOwn own.out
    exact ⟨B, k, cB, rfl, by rw [← seedI_all (Nat.le_of_eq HL.out)]; exact h1, h2, hkwr.toBelow⟩
  obtain ⟨b, o1, rfl, hl0, hc⟩ := HP.out.2 (by omega)
  have hl : b < wr.heap.size := Nat.lt_of_lt_of_le hl0 hkwr.size
  have h1 := (hkwr.cell b _ hl0 (by simp)).trans (hc i hlt).1
  have h2 := (hkwr.cell b _ hl0 (by simp)).trans (hc i hlt).2
  obtain ⟨sn, sf, en⟩ : ∃ sn sf, gd sd i = ⟨sn, sf⟩ := ⟨_, _, rfl⟩
  rw [en] at h1 h2
  have hi9 : (i : Int) < (n4 : Int) := by omega
  have HS : Hid (seedI sd nd (i + 1) = seedI sd nd i ++ (if sn = nd then [sf] else [])) := Lib.hid (by rw [seedI_succ (by rw [HL.out]; exact hlt), en])
  clear hc en
  by_cases heq : sn = nd
  · have z0 : (sn == nd) = true := by simpa using heq
    have HS2 : Hid (seedI sd nd (i + 1) = seedI sd nd i ++ [sf]) := Lib.hid (by rw [HS.out, if_pos heq])
    have HAP := Lib.hid (ints_snoc (seedI sd nd i) sf)
    clear heq
    go_wp2_with (at_builtin; refine wpList_append_rd _ rfl _ _ 26 rfl W.heap.size 3 i1 (.int .i64 0) 1 8 Try.underlying26 hj hy0 hy1 hy2 rfl (by decide) (.slice B k cB) k _ rfl (own_keptT (X := []) own.out ((Kept.refl _ _).alloc _) (by simp)) (some ⟨wr.heap.size, 0, none⟩) 1 1 [.int .i64 sf] rfl (Rd.new1 _ _ _ _ rfl) (fun h => by cases h) (by intro u hu; simp at hu; subst hu; rfl) (k + 1) rfl _ HAP.out (by unfold maxLen; omega) (by omega) (by simp; omega) ?_; intro A9 c9 w9 hown4 hk4 hat4; have hk5 := Lib.hid ((hkr.alloc (.cells #[.int .i64 sf] 3)).next hk4 (fun y hy => Or.inr (HX.out y hy))); have HO4 := Lib.hid hown4; clear hown4 hk4 hat4)
    exact ⟨⟨i + 1, A9, k + 1, c9, by omega, by go_num, rfl, hk5.out, by rw [HS2.out, List.length_append, HOK.out]; rfl, by omega, by rw [HS2.out]; exact HO4⟩, by simp [intOf]; omega⟩
  · have z0 : (sn == nd) = false := by simpa using heq
    have HS2 : Hid (seedI sd nd (i + 1) = seedI sd nd i) := Lib.hid (by rw [HS.out, if_neg heq, List.append_nil])
    clear heq
    go_wp2_with fail
    exact ⟨⟨i + 1, B, k, cB, by omega, by go_num, rfl, hkr, by rw [HS2.out, HOK.out], by omega, by rw [HS2.out]; exact own⟩, by simp [intOf]; omega⟩

set_option maxRecDepth 100000 in
set_option maxHeartbeats 8000000 in
theorem rwalk_any (A1 A2 A3 A4 A5 : Option Addr) (n1 c1 n2 c2 n3 c3 n4 c4 n5 c5 : Nat) (mn F : Int) (ns : List Sp.Nd) (es : List Sp.Ed) (ls : List (List Pr)) (sd : List Sd) (path : List Int) (w : World) (he : Eds w A2 n2 es) (hf : Flw w A3 n3 ls) (hs : Sds w A4 n4 sd) (hp : Ints w A5 n5 path) (hn4 : n4 ≤ 1000)
    (ho : Ok ⟨ns, es, mn, F, ls, sd⟩) (hpl : path.length ≤ 4096) (hpi : ∀ j, j < path.length → 0 ≤ gi path j ∧ gi path j < es.length) :
    Calls Try.prog 33 #[.agg #[.slice A1 n1 c1, .slice A2 n2 c2, .int .i64 mn, .int .i64 F, .slice A3 n3 c3, .slice A4 n4 c4], .slice A5 n5 c5] w (GetF w (alongF ⟨ns, es, mn, F, ls, sd⟩ path)) := by
  have HE := Lib.hid he
  have HF := Lib.hid hf
  have HS := Lib.hid hs
  have HP := Lib.hid hp
  have HPN := Lib.hid hp.1
  have HPI := Lib.hid hpi
  have HO := Lib.hid ho
  have HL3 := Lib.hid ho.len
  have HSN : Hid ((seedF sd mn).length ≤ 1000) := Lib.hid (Nat.le_trans (seedF_len sd mn) (by rw [HS.out.1]; exact hn4))
  have HSR : Hid (∀ i j, i ≤ j → j < n4 → (gd sd i).n ≤ (gd sd j).n) := fun i j h1 h2 => sd_mono HO.out.sd h1 (by rw [HS.out.1]; exact h2)
  have hn5 : n5 ≤ 4096 := by have := hp.1; omega
  clear he hf hs hp hpi ho hpl
  go_enter Try.func33, Try.ntmps33
  go_upto_region 1 with fail
  refine wp_named (fun W => ∃ b0, w.heap.size = b0 ∧ Blk W b0 [.slice A1 n1 c1, .slice A2 n2 c2, .int .i64 mn, .int .i64 F, .slice A3 n3 c3, .slice A4 n4 c4] ∧ Below w.heap.size w W) ⟨_, rfl, ?_, ?_⟩ ?_
  · exact Blk.new _ _ _ _ (by first | rfl | simp)
  · go_grown
  rintro W ⟨b0, e0, B0, hB⟩
  rw [e0]
  have G0 : w.heap.size ≤ b0 := by omega
  clear e0
  have ⟨L0, C0, F0⟩ := B0
  have hkW : Kept [] w W := (Kept.refl _ _).call hB
  go_upto_region 2 with (first
    | (go_at_call 80; refine (rseedsat30_any A1 _ _ A4 n1 c1 n2 c2 n3 c3 n4 c4 mn F mn sd _ (HS.out.later hB) (by omega)).mono ?_; rintro e w1 ⟨Q, k, cQ, rfl, hi1, hc1, hb1⟩; have HI1 := Lib.hid hi1; clear hi1)
    | (go_at_call 79; refine (rjoin30_any Q none k cQ 0 0 (seedF sd mn) [] _ HI1.out (Ints.empty _ _) (by have := HI1.out.1; have := HSN.out; omega) (by omega)).mono ?_; rintro e w2 ⟨Q2, k2, cQ2, rfl, hi2, hc2, hb2⟩; have HI2 := Lib.hid hi2; clear hi2))
  have hk1 : Kept [] W w2 := ((Kept.refl [] W).call hb1).call hb2
  have HI0 : Hid (Ints w2 Q2 k2 (alongF ⟨ns, es, mn, F, ls, sd⟩ (path.take 0))) := HI2
  have hc0 := hc2
  have B01 := hk1.blk (by simp) B0
  have ⟨L01, C01, F01⟩ := B01
  clear C0 F0
  go_wp2_with fail
  go_loopw [5, 6] (fun s5 i wr => ∃ (j : Nat) (Q : Option Addr) (cQ m : Nat), j ≤ n5 ∧ s5 = .slice Q m cQ ∧ i = .int .i64 j ∧ Kept [] W wr ∧ m ≤ cQ ∧ Hid (Ints wr Q m (alongF ⟨ns, es, mn, F, ls, sd⟩ (path.take j)))) (fun _ i _ => n5 - (intOf i).toNat)
  case atStart => exact ⟨0, Q2, cQ2, k2, Nat.zero_le _, rfl, rfl, hk1, hc0, HI0⟩
  case round =>
    clear C01 F01 HI0
    obtain ⟨j, Q, cQ, m, hj, rfl, rfl, hkr, hmc, vr⟩ := hrel
    have hkwr : Kept [] w wr := keptTrans hkW hkr
    have ⟨LR, CR, FR⟩ := hkr.blk (by simp) B0
    by_cases hlt : j < n5
    case neg =>
      obtain rfl : j = n5 := by omega
      have e9 : path.take j = path := List.take_of_length_le (by rw [HPN.out]; exact Nat.le_refl _)
      rw [e9] at vr
      go_wp2_with fail
      go_ret
      exact ⟨Q, m, cQ, rfl, vr.out, hmc, hkwr.toBelow⟩
    obtain ⟨b5, o5, rfl, hl5, hc5⟩ := HP.out.2 (by omega)
    have hpj := HPI.out j (by rw [HPN.out]; exact hlt)
    obtain ⟨k, hk⟩ := Int.eq_ofNat_of_zero_le hpj.1
    have r5 : wr.cell? ⟨b5, o5 + j, none⟩ = some (.int .i64 k) := by rw [← hk]; exact (hkwr.cell b5 _ hl5 (by simp)).trans (hc5 j hlt)
    have hl5r : b5 < wr.heap.size := Nat.lt_of_lt_of_le hl5 hkwr.size
    have hk2 : k < n2 := by have := HE.out.1; omega
    have hk3 : k < n3 := by have := HE.out.1; have := HF.out.1; have h9 : ls.length = es.length := HL3.out; omega
    have HK := Lib.hid hk
    have hj1 : (j : Int) < (n5 : Int) := by omega
    have hk2' : (k : Int) < (n2 : Int) := by omega
    have hk3' : (k : Int) < (n3 : Int) := by omega
    clear hk hpj hc5
    obtain ⟨b3, o3, rfl, hl3, hc3⟩ := HF.out.2 (by omega)
    obtain ⟨Ai, ni, ci, hcell3, hnc3, hprs⟩ := hc3 k hk3
    have r3 := (hkwr.cell b3 _ hl3 (by simp)).trans hcell3
    have hl3r : b3 < wr.heap.size := Nat.lt_of_lt_of_le hl3 hkwr.size
    have HPR := Lib.hid hprs
    have hflk := HO.out.fl k (by have h9 : ls.length = n3 := HF.out.1; show k < ls.length; omega)
    have hni : ni ≤ 8192 := by have h9 := hprs.1; have h8 := hflk.1; dsimp only at h8; omega
    obtain ⟨b2, o2, rfl, hl2, hc2⟩ := HE.out.2 (by omega)
    obtain ⟨nd, hnd⟩ : ∃ nd, (ge es k).b = nd := ⟨_, rfl⟩
    have r2 := (hkwr.cell b2 _ hl2 (by simp)).trans (hc2 k hk2).2.1
    rw [hnd] at r2
    have hl2r : b2 < wr.heap.size := Nat.lt_of_lt_of_le hl2 hkwr.size
    have HSTEP : Hid (alongF ⟨ns, es, mn, F, ls, sd⟩ (path.take (j + 1)) = joinF (applyF (gf ls k) (alongF ⟨ns, es, mn, F, ls, sd⟩ (path.take j))) (seedF sd nd)) := Lib.hid (by
      have hjl : j < path.length := by rw [HPN.out]; exact hlt
      have e1 : path.take (j + 1) = path.take j ++ [gi path j] := by rw [List.take_add_one, List.getElem?_eq_getElem hjl, gi_lt hjl]; rfl
      rw [e1, alongF_snoc]
      unfold stepF
      rw [HK.out, ← hnd]
      rfl)
    have HAL : Hid ((applyF (gf ls k) (alongF ⟨ns, es, mn, F, ls, sd⟩ (path.take j))).length ≤ 8192) := Lib.hid (Nat.le_trans (applyF_len _ _) hflk.1)
    have HSN2 : Hid ((seedF sd nd).length ≤ 1000) := Lib.hid (Nat.le_trans (seedF_len sd nd) (by rw [HS.out.1]; exact hn4))
    have hm9 : m ≤ 10000 := by
      have h9 := vr.out.1
      have h8 := alongF_len ⟨ns, es, mn, F, ls, sd⟩ 8192 1000 (fun i => by
        by_cases hi : i < ls.length
        · exact (HO.out.fl i hi).1
        · simp [gf, hi]) (by have := HS.out.1; show sd.length ≤ 1000; omega) (path.take j) (joinF (seedF sd mn) []) (by have := joinF_len (seedF sd mn) []; have := HSN.out; simp at *; omega)
      change (alongF ⟨ns, es, mn, F, ls, sd⟩ (path.take j)).length ≤ 8192 + 1000 at h8
      omega
    have HWF : Hid (∀ x ∈ alongF ⟨ns, es, mn, F, ls, sd⟩ (path.take j), (Lit.int .i64 x).wf = true) := Lib.hid (fun x hx => by
      have h9 := alongF_rng HO.out (path := path.take j) (fun i hi => by
        rw [List.length_take] at hi
        have h8 := HPI.out i (by omega)
        have e8 : gi (path.take j) i = gi path i := by rw [gi_lt (by rw [List.length_take]; omega), gi_lt (by omega), List.getElem_take]
        rw [e8]; exact h8) x hx
      have h7 := HO.out.f2
      dsimp only at h9 h7
      exact WalkArith.wf_i64 (by omega))
    have HWP : Hid (∀ q ∈ gf ls k, (Lit.int .i64 q.i).wf = true) := Lib.hid (fun q hq => by
      have h9 := HO.out.pair (k := k) (by have h9 : ls.length = n3 := HF.out.1; show k < ls.length; omega) hq
      have h7 := HO.out.f2
      dsimp only at h9 h7
      exact WalkArith.wf_i64 (by omega))
    clear hprs hcell3 hc3 hc2 hnd hflk
    go_upto_region 5 with fail
    refine wp_region_E 23 (fun w' => SX0 wr w') (by kernel_rfl) (by (repeat' first | (with_reducible assumption) | (with_reducible exact SX0.init _) | (with_reducible exact SX0.refl _) | (with_reducible refine SX0.alloc ?_ _) | (with_reducible refine SX0.call ?_ (by assumption)) | (with_reducible refine SX0.set ?_ _ _ _ ?_) | (with_reducible refine SX0.drew ?_) | (simp; done) | omega | (simp; omega))) (fun hHeld => ?_)
    refine WE_take 0 (v := ?_) rfl (by kernel_rfl) (fun _ _ _ h => h) (Or.inl ⟨by rfl, ?_⟩) (by assumption) ?_; rotate_left; (· intro w9 hSw; (try dsimp only at hSw); go_simp; try with_reducible rfl); (try simp only [Act.put, List.setIfInBounds_toArray, List.set_cons_zero, List.set_cons_succ])
    refine WE_take 1 (v := ?_) rfl (by kernel_rfl) (fun _ _ _ h => h) (Or.inl ⟨by rfl, ?_⟩) (by assumption) ?_; rotate_left; (· intro w9 hSw; (try dsimp only at hSw); go_simp; try with_reducible rfl); (try simp only [Act.put, List.setIfInBounds_toArray, List.set_cons_zero, List.set_cons_succ])
    refine WE_take 2 (v := ?_) rfl (by kernel_rfl) (fun _ _ _ h => h) (Or.inl ⟨by rfl, ?_⟩) (by assumption) ?_; rotate_left; (· intro w9 hSw; (try dsimp only at hSw); go_simp; try with_reducible rfl); (try simp only [Act.put, List.setIfInBounds_toArray, List.set_cons_zero, List.set_cons_succ])
    refine WE_take 3 (v := ?_) rfl (by kernel_rfl) (fun _ _ _ h => h) (Or.inl ⟨by rfl, ?_⟩) (by assumption) ?_; rotate_left; (· intro w9 hSw; (try dsimp only at hSw); go_simp; try with_reducible rfl); (try simp only [Act.put, List.setIfInBounds_toArray, List.set_cons_zero, List.set_cons_succ])
    refine WE_take 4 (v := ?_) rfl (by kernel_rfl) (fun _ _ _ h => h) (Or.inl ⟨by rfl, ?_⟩) (by assumption) ?_; rotate_left; (· intro w9 hSw; (try dsimp only at hSw); go_simp; try with_reducible rfl); (try simp only [Act.put, List.setIfInBounds_toArray, List.set_cons_zero, List.set_cons_succ])
    refine WE_take 5 (v := ?_) rfl (by kernel_rfl) (fun _ _ _ h => h) (Or.inl ⟨by rfl, ?_⟩) (by assumption) ?_; rotate_left; (· intro w9 hSw; (try dsimp only at hSw); go_simp; try with_reducible rfl); (try simp only [Act.put, List.setIfInBounds_toArray, List.set_cons_zero, List.set_cons_succ])
    refine WE_take 6 (v := ?_) rfl (by kernel_rfl) (fun _ _ _ h => h) (Or.inl ⟨by rfl, ?_⟩) (by assumption) ?_; rotate_left; (· intro w9 hSw; (try dsimp only at hSw); go_simp; try with_reducible rfl); (try simp only [Act.put, List.setIfInBounds_toArray, List.set_cons_zero, List.set_cons_succ])
    refine WE_take 7 (v := ?_) rfl (by kernel_rfl) (fun _ _ _ h => h) (Or.inl ⟨by rfl, ?_⟩) (by assumption) ?_; rotate_left; (· intro w9 hSw; (try dsimp only at hSw); go_simp; try with_reducible rfl); (try simp only [Act.put, List.setIfInBounds_toArray, List.set_cons_zero, List.set_cons_succ])
    refine WE_take 8 (v := ?_) rfl (by kernel_rfl) (fun _ _ _ h => h) (Or.inl ⟨by rfl, ?_⟩) (by assumption) ?_; rotate_left; (· intro w9 hSw; (try dsimp only at hSw); go_simp; try with_reducible rfl); (try simp only [Act.put, List.setIfInBounds_toArray, List.set_cons_zero, List.set_cons_succ])
    refine WE_take 10 (v := ?_) rfl (by kernel_rfl) (fun _ _ _ h => h) (Or.inl ⟨by rfl, ?_⟩) (by assumption) ?_; rotate_left; (· intro w9 hSw; (try dsimp only at hSw); go_simp; try with_reducible rfl); (try simp only [Act.put, List.setIfInBounds_toArray, List.set_cons_zero, List.set_cons_succ])
    refine WE_take 11 (v := ?_) rfl (by kernel_rfl) (fun _ _ _ h => h) (Or.inl ⟨by rfl, ?_⟩) (by assumption) ?_; rotate_left; (· intro w9 hSw; (try dsimp only at hSw); go_simp; try with_reducible rfl); (try simp only [Act.put, List.setIfInBounds_toArray, List.set_cons_zero, List.set_cons_succ])
    refine WE_take 12 (v := ?_) rfl (by kernel_rfl) (fun _ _ _ h => h) (Or.inl ⟨by rfl, ?_⟩) (by assumption) ?_; rotate_left; (· intro w9 hSw; (try dsimp only at hSw); go_simp; try with_reducible rfl); (try simp only [Act.put, List.setIfInBounds_toArray, List.set_cons_zero, List.set_cons_succ])
    refine WE_take 13 (v := ?_) rfl (by kernel_rfl) (fun _ _ _ h => h) (Or.inl ⟨by rfl, ?_⟩) (by assumption) ?_; rotate_left; (· intro w9 hSw; (try dsimp only at hSw); go_simp; try with_reducible rfl); (try simp only [Act.put, List.setIfInBounds_toArray, List.set_cons_zero, List.set_cons_succ])
    refine WE_take 14 (v := ?_) rfl (by kernel_rfl) (fun _ _ _ h => h) (Or.inl ⟨by rfl, ?_⟩) (by assumption) ?_; rotate_left; (· intro w9 hSw; (try dsimp only at hSw); go_simp; try with_reducible rfl); (try simp only [Act.put, List.setIfInBounds_toArray, List.set_cons_zero, List.set_cons_succ])
    refine WE_take 15 (v := ?_) rfl (by kernel_rfl) (fun _ _ _ h => h) (Or.inl ⟨by rfl, ?_⟩) (by assumption) ?_; rotate_left; (· intro w9 hSw; (try dsimp only at hSw); go_simp; try with_reducible rfl); (try simp only [Act.put, List.setIfInBounds_toArray, List.set_cons_zero, List.set_cons_succ])
    refine WE_take 16 (v := ?_) rfl (by kernel_rfl) (fun _ _ _ h => h) (Or.inl ⟨by rfl, ?_⟩) (by assumption) ?_; rotate_left; (· intro w9 hSw; (try dsimp only at hSw); go_simp; try with_reducible rfl); (try simp only [Act.put, List.setIfInBounds_toArray, List.set_cons_zero, List.set_cons_succ])
    refine WE_take 17 (v := ?_) rfl (by kernel_rfl) (fun _ _ _ h => h) (Or.inl ⟨by rfl, ?_⟩) (by assumption) ?_; rotate_left; (· intro w9 hSw; (try dsimp only at hSw); go_simp; try with_reducible rfl); (try simp only [Act.put, List.setIfInBounds_toArray, List.set_cons_zero, List.set_cons_succ])
    refine WE_take 18 (v := ?_) rfl (by kernel_rfl) (fun _ _ _ h => h) (Or.inl ⟨by rfl, ?_⟩) (by assumption) ?_; rotate_left; (· intro w9 hSw; (try dsimp only at hSw); go_simp; try with_reducible rfl); (try simp only [Act.put, List.setIfInBounds_toArray, List.set_cons_zero, List.set_cons_succ])
    refine WE_take 19 (v := ?_) rfl (by kernel_rfl) (fun _ _ _ h => h) (Or.inl ⟨by rfl, ?_⟩) (by assumption) ?_; rotate_left; (· intro w9 hSw; (try dsimp only at hSw); go_simp; try with_reducible rfl); (try simp only [Act.put, List.setIfInBounds_toArray, List.set_cons_zero, List.set_cons_succ])
    refine WE_take 20 (v := ?_) rfl (by kernel_rfl) (fun _ _ _ h => h) (Or.inl ⟨by rfl, ?_⟩) (by assumption) ?_; rotate_left; (· intro w9 hSw; (try dsimp only at hSw); go_simp; try with_reducible rfl); (try simp only [Act.put, List.setIfInBounds_toArray, List.set_cons_zero, List.set_cons_succ])
    refine WE_step 9 rfl (by kernel_rfl) (fun K hK => ?_)
    go_simp
    (first | (go_at_call 81; refine (rapply_any Ai Q ni ci m cQ (gf ls k) (alongF ⟨ns, es, mn, F, ls, sd⟩ (path.take j)) _ (HPR.out.later (hkwr.drew).toBelow) (vr.out.kept ((Kept.refl [] _).drew)) (by omega) (by omega)).mono ?_; rintro e w6 ⟨A6, n6, c6, rfl, hi6, hc6, hb6⟩; have HI6 := Lib.hid hi6; clear hi6) | (go_at_call 80; refine (rseedsat30_any A1 _ _ A4 n1 c1 n2 c2 n3 c3 n4 c4 mn F nd sd _ (HS.out.later (keptTrans hkwr hHeld.1).toBelow) (by omega)).mono ?_; rintro e w7 ⟨A7, n7, c7, rfl, hi7, hc7, hb7⟩; have HI7 := Lib.hid hi7; clear hi7) | (go_at_call 79; refine (rjoin30_any A6 A7 n6 c6 n7 c7 _ _ _ (HI6.out.later hb7) HI7.out (by have := HI6.out.1; have := HAL.out; omega) (by have := HI7.out.1; have := HSN2.out; omega)).mono ?_; rintro e w8 ⟨A8, n8, c8, rfl, hi8, hc8, hb8⟩; have HI8 := Lib.hid hi8; clear hi8))
    (try go_wp2_with fail)
    refine hK.out _ _ ?_ (fun hHeld => ?_)
    · (repeat' first | (with_reducible assumption) | (with_reducible exact SX0.init _) | (with_reducible exact SX0.refl _) | (with_reducible refine SX0.alloc ?_ _) | (with_reducible refine SX0.call ?_ (by assumption)) | (with_reducible refine SX0.set ?_ _ _ _ ?_) | (with_reducible refine SX0.drew ?_) | (simp; done) | omega | (simp; omega))
    clear hK K
    try simp only [Act.put, List.setIfInBounds_toArray, List.set_cons_zero, List.set_cons_succ]
    refine WE_step 21 rfl (by kernel_rfl) (fun K hK => ?_)
    go_simp
    (first | (go_at_call 81; refine (rapply_any Ai Q ni ci m cQ (gf ls k) (alongF ⟨ns, es, mn, F, ls, sd⟩ (path.take j)) _ (HPR.out.later (hkwr.drew).toBelow) (vr.out.kept ((Kept.refl [] _).drew)) (by omega) (by omega)).mono ?_; rintro e w6 ⟨A6, n6, c6, rfl, hi6, hc6, hb6⟩; have HI6 := Lib.hid hi6; clear hi6) | (go_at_call 80; refine (rseedsat30_any A1 _ _ A4 n1 c1 n2 c2 n3 c3 n4 c4 mn F nd sd _ (HS.out.later (keptTrans hkwr hHeld.1).toBelow) (by omega)).mono ?_; rintro e w7 ⟨A7, n7, c7, rfl, hi7, hc7, hb7⟩; have HI7 := Lib.hid hi7; clear hi7) | (go_at_call 79; refine (rjoin30_any A6 A7 n6 c6 n7 c7 _ _ _ (HI6.out.later hb7) HI7.out (by have := HI6.out.1; have := HAL.out; omega) (by have := HI7.out.1; have := HSN2.out; omega)).mono ?_; rintro e w8 ⟨A8, n8, c8, rfl, hi8, hc8, hb8⟩; have HI8 := Lib.hid hi8; clear hi8))
    (try go_wp2_with fail)
    refine hK.out _ _ ?_ (fun hHeld => ?_)
    · (repeat' first | (with_reducible assumption) | (with_reducible exact SX0.init _) | (with_reducible exact SX0.refl _) | (with_reducible refine SX0.alloc ?_ _) | (with_reducible refine SX0.call ?_ (by assumption)) | (with_reducible refine SX0.set ?_ _ _ _ ?_) | (with_reducible refine SX0.drew ?_) | (simp; done) | omega | (simp; omega))
    clear hK K
    try simp only [Act.put, List.setIfInBounds_toArray, List.set_cons_zero, List.set_cons_succ]
    refine WE_step 22 rfl (by kernel_rfl) (fun K hK => ?_)
    go_simp
    (first | (go_at_call 81; refine (rapply_any Ai Q ni ci m cQ (gf ls k) (alongF ⟨ns, es, mn, F, ls, sd⟩ (path.take j)) _ (HPR.out.later (hkwr.drew).toBelow) (vr.out.kept ((Kept.refl [] _).drew)) (by omega) (by omega)).mono ?_; rintro e w6 ⟨A6, n6, c6, rfl, hi6, hc6, hb6⟩; have HI6 := Lib.hid hi6; clear hi6) | (go_at_call 80; refine (rseedsat30_any A1 _ _ A4 n1 c1 n2 c2 n3 c3 n4 c4 mn F nd sd _ (HS.out.later (keptTrans hkwr hHeld.1).toBelow) (by omega)).mono ?_; rintro e w7 ⟨A7, n7, c7, rfl, hi7, hc7, hb7⟩; have HI7 := Lib.hid hi7; clear hi7) | (go_at_call 79; refine (rjoin30_any A6 A7 n6 c6 n7 c7 _ _ _ (HI6.out.later hb7) HI7.out (by have := HI6.out.1; have := HAL.out; omega) (by have := HI7.out.1; have := HSN2.out; omega)).mono ?_; rintro e w8 ⟨A8, n8, c8, rfl, hi8, hc8, hb8⟩; have HI8 := Lib.hid hi8; clear hi8))
    (try go_wp2_with fail)
    refine hK.out _ _ ?_ (fun hHeld => ?_)
    · (repeat' first | (with_reducible assumption) | (with_reducible exact SX0.init _) | (with_reducible exact SX0.refl _) | (with_reducible refine SX0.alloc ?_ _) | (with_reducible refine SX0.call ?_ (by assumption)) | (with_reducible refine SX0.set ?_ _ _ _ ?_) | (with_reducible refine SX0.drew ?_) | (simp; done) | omega | (simp; omega))
    clear hK K
    try simp only [Act.put, List.setIfInBounds_toArray, List.set_cons_zero, List.set_cons_succ]
    refine WE_last rfl (by kernel_rfl) (fun K hK => ?_)
    go_simp
    refine hK.out _ _ ?_
    clear hK K
    have hk8 : Kept [] wr w8 := hHeld.1
    go_wp2_with fail
    exact ⟨⟨j + 1, A8, c8, n8, by omega, rfl, by go_num, keptTrans hkr hk8, hc8, Lib.hid (by rw [HSTEP.out]; exact HI8.out)⟩, by simp [intOf]; omega⟩

set_option maxRecDepth 100000 in
set_option maxHeartbeats 4000000 in
theorem rends_any (A1 A2 A5 : Option Addr) (n1 c1 n2 c2 n5 c5 : Nat) (mn : Int) (es : List Sp.Ed) (path : List Int) (w : World) (he : Eds w A2 n2 es) (hp : Ints w A5 n5 path) (hpi : ∀ j, j < path.length → 0 ≤ gi path j ∧ gi path j < es.length) (hpl : path.length ≤ 4096) (v : Int) (hv : endS es mn path = v) :
    Calls Try.prog 34 #[.agg #[.slice A1 n1 c1, .slice A2 n2 c2, .int .i64 mn], .slice A5 n5 c5] w fun e w' => e = .returned (.int .i64 v) ∧ Below w.heap.size w w' := by
  have HE := Lib.hid he
  have HP := Lib.hid hp
  have HN := Lib.hid hp.1
  have HPI := Lib.hid hpi
  have HV := Lib.hid hv
  have hn5 : n5 ≤ 4096 := by have := hp.1; omega
  clear he hp hpi hv hpl
  go_enter Try.func34, Try.ntmps34
  go_upto_region 1 with fail
  refine wp_named (fun W => ∃ b0, w.heap.size = b0 ∧ Blk W b0 [.slice A1 n1 c1, .slice A2 n2 c2, .int .i64 mn] ∧ Below w.heap.size w W) ⟨_, rfl, ?_, ?_⟩ ?_
  · exact Blk.new _ _ _ _ (by first | rfl | simp)
  · go_grown
  rintro W ⟨b0, e0, B0, hB⟩
  rw [e0]
  have G0 : w.heap.size ≤ b0 := by omega
  clear e0
  have ⟨L0, C0, F0⟩ := B0
  have hkW : Kept [] w W := (Kept.refl _ _).call hB
  by_cases h0 : n5 = 0
  · subst h0
    have hE : Hid (v = mn) := by
      show _ = _
      have : path = [] := List.eq_nil_of_length_eq_zero HN.out
      subst this
      rw [← HV.out]
      rfl
    go_wp2_with fail
    go_ret
    exact ⟨by rw [hE.out]; rfl, hB⟩
  have y1 : ((n5 : Int) == 0) = false := by simp; omega
  have y2 : (n5 == 0) = false := by simp; omega
  obtain ⟨b5, o5, rfl, hl5, hc5⟩ := HP.out.2 (by omega)
  have hpj := HPI.out (n5 - 1) (by rw [HN.out]; omega)
  obtain ⟨k, hk⟩ := Int.eq_ofNat_of_zero_le hpj.1
  have hk2 : k < n2 := by have := HE.out.1; omega
  obtain ⟨b2, o2, rfl, hl2, hc2f⟩ := HE.out.2 (by omega)
  have hc2e := (hkW.cell b2 _ hl2 (by simp)).trans (hc2f k hk2).2.1
  have r5 : W.cell? ⟨b5, o5 + (n5 - 1), none⟩ = some (.int .i64 k) := by rw [← hk]; exact (hkW.cell b5 _ hl5 (by simp)).trans (hc5 (n5 - 1) (by omega))
  have hE : Hid ((ge es k).b = v) := by
    show _ = _
    rw [← HV.out, endS_last path mn (by rw [HN.out]; omega), HN.out, hk]
    rfl
  rw [hE.out] at hc2e
  have hl5r : b5 < W.heap.size := Nat.lt_of_lt_of_le hl5 hkW.size
  have hl2r : b2 < W.heap.size := Nat.lt_of_lt_of_le hl2 hkW.size
  have hk2' : (k : Int) < (n2 : Int) := by omega
  have w3 : IntKind.i64.wrap ((n5 : Int) - 1) = (n5 : Int) - 1 := IntWalk.i64_in _ (by omega)
  have w4 : (0 : Int) ≤ (n5 : Int) - 1 := by omega
  have w5 : ((n5 : Int) - 1).toNat = n5 - 1 := by omega
  have w7 : (n5 : Int) - 1 < (n5 : Int) := by omega
  have w9 : 1 ≤ n5 := by omega
  have w10 : (1 : Int) ≤ (n5 : Int) := by omega
  clear hk hpj hc5 h0
  go_upto_region 3 with fail
  go_quiet (fail)
  go_wp2_with fail
  go_ret
  exact ⟨rfl, (hkW.drewN _).toBelow⟩
end Go.Proofs.Ytffkikhknabddaa
