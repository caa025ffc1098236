/- The keys of a row, ascending; get at any key. -/
import Derived.Test.YtmbihjlflcjlnaaGreatNc
import Derived.Test.YtmbihjlflcjlnaaGreatKl
import Derived.Test.YtmbihjlflcjlnaaGreatZf
import Derived.Lib.SlKeysI
namespace Go.Df
open Go.RowKit
namespace If
/-- The truth about a row of a table, by its keys. -/
theorem has_intKeys {H : Type} {D : DataW H} {x : Int} (h : Maps.has D (.int .i64 x) = true) : x ∈ intKeys D := by
  cases D with
  | map es =>
    rw [Maps.has_eq, List.any_eq_true] at h
    obtain ⟨q, hq, hs⟩ := h
    show x ∈ es.map fun q => Go.intOf q.1
    rw [List.mem_map]
    refine ⟨q, hq, ?_⟩
    cases hk : q.1 <;> rw [hk] at hs <;> simp [Lit.sameKey] at hs
    simp [Go.intOf, hs]
  | _ => simp [Maps.has] at h
end If
end Go.Df
namespace Go.Proofs.YtmbihjlflcjlnaaGreat
open Go.RowKit Go.Df Go.Df.If Go.Shelf Go.Maps Go.Sort
attribute [local go_sem ↓] Go.wp_at_zero Go.wp_at_succ

set_option maxRecDepth 100000 in
set_option maxHeartbeats 4000000 in
theorem getz_any (r N c0 n : Nat) (x : Int) (m : Nat → Option Nat) (c : Nat → Nat) (v : Nat → Value → Value) (w : World) (ht : TbB w r N m c v) (hn : n < N) (hx : (Lit.int .i64 x).wf = true) :
    Calls Tryz.prog 62 #[.agg #[.slice (some ⟨r, 0, none⟩) N c0], .int .i64 n, .int .i64 x] w fun e w' => e = .returned (v n (.int .i64 x)) ∧ Below w.heap.size w w' := by
  have HT := Lib.hid ht
  have hrl := ht.rtag.lt
  clear ht
  have hn1 : (n : Int) < (N : Int) := by omega
  have hkey := Tryz.keyInt x hx
  have HK := Lib.hid hkey
  clear hkey
  go_enter Tryz.func62, Tryz.ntmps62
  go_upto_region 1 with fail
  refine wp_named (fun W => ∃ b0, w.heap.size = b0 ∧ Blk W b0 [.slice (some ⟨r, 0, none⟩) N c0] ∧ Below w.heap.size w W) ⟨_, rfl, ?_, ?_⟩ ?_
  · exact Blk.new _ _ _ _ (by first | rfl | simp)
  · go_grown
  rintro W ⟨b0, e0, B0, hB⟩
  rw [e0]
  have G0 : w.heap.size ≤ b0 := by omega
  clear e0
  have ⟨L0, C0, F0⟩ := B0
  have hkW : Kept [] w W := (Kept.refl _ _).call hB
  have HTW := Lib.hid (HT.out.kept hkW (by simp) (by simp))
  have hcell := HTW.out.cell hn
  have hrW : r < W.heap.size := HTW.out.rtag.lt
  cases hm : m n with
  | none =>
    rw [hm] at hcell
    have hrun : (Instr.lookup 121 (.map none) (.int .i64 x) false).run Tryz.prog W = .ok (.slice none 0 0) W := by
      have := Maps.look_nil (w := W) false Tryz.lawInt Tryz.mapIB (Tryz.zeroBits W) HK.out
      simpa using this
    have HZ := Lib.hid (HTW.out.no n hn hm (.int .i64 x))
    clear hm
    go_wp2
    go_ret
    rw [HZ.out]
    exact ⟨rfl, hB⟩
  | some b =>
    rw [hm] at hcell
    have hrun : (Instr.lookup 121 (.map (some b)) (.int .i64 x) false).run Tryz.prog W = .ok (v n (.int .i64 x)) W :=
      (HTW.out.is n b hn hm).look Tryz.lawInt Tryz.mapIB (Tryz.zeroBits W) HK.out
    clear hm
    go_wp2
    go_ret
    exact ⟨rfl, hB⟩

theorem sortsA (m : Nat) : AnyZI.SortsIn Tryz.prog laySdr Fence.wide m :=
  ⟨fun blk off cap ss W hH hblk hsz => callsIn_wide.2 (AnyM.slices_Sort_int laySt blk off cap ss W hH hblk hsz),
   fun p cap W => callsIn_wide.2 (AnyM.slices_Sort_int_none laySt p cap W)⟩
theorem mkeys_any (mb : Option Nat) (W : World) : Calls Tryz.prog 109 #[.map mb] W fun e w' => e = .returned (.func (.func 148) #[] #[.pointer (some ⟨W.heap.size, 0, none⟩)]) ∧ w' = W.alloc (.cells #[.map mb] 121) :=
  (callsIn_wide (n := 5)).1 (AnyZI.keys_in layKy Fence.wide 5 trivial rfl mb W)
set_option maxRecDepth 100000 in
theorem msorted_any {H : Type} (b nn : Nat) (D0 : DataW H) (R : Value → Option (DataW H × List MemPlace)) (w : World) (hown : w.ownsMap Tryz.prog 3 R b nn D0) (hmax : Maps.size D0 ≤ maxLen) (hbytes : Maps.size D0 * 8 ≤ 140737488355328) :
    Calls Tryz.prog 83 #[.func (.func 148) #[] #[.pointer (some ⟨w.heap.size, 0, none⟩)]] (w.alloc (.cells #[.map (some b)] 121)) fun e w' => ∃ (v : Value) (ss : List Int), e = .returned v ∧ ss.Perm (intKeys D0) ∧
      w'.ownsRow (w.alloc (.cells #[.map (some b)] 121)).heap.size 3 1 v ss.length ((ss.mergeSort (fun x y => decide (x ≤ y))).map encZ) ∧ (v = .slice none 0 0 ↔ ss = []) ∧ Below (w.alloc (.cells #[.map (some b)] 121)).heap.size (w.alloc (.cells #[.map (some b)] 121)) w' := by
  have hbl := hown.lt
  have hseq : SeqGives Fence.wide 2 Tryz.prog 148 #[.pointer (some ⟨w.heap.size, 0, none⟩)] encZ (fun ss => ss.Perm (intKeys D0)) (Maps.size D0) (w.alloc (.cells #[.map (some b)] 121)) :=
    AnyZI.keys_gives (ρ := layKyr) { layKy with } Fence.wide _ trivial rfl (by omega) w.heap.size b nn D0 _ (by simp) (by simp) (by
      obtain ⟨es, clock, hb, Ft, hs, hD⟩ := hown
      exact ⟨es, clock, (Below.heap_alloc _ _ b hbl).trans hb, Ft, hs, hD⟩)
  have cS := AnyZI.sorted_in laySd Fence.wide 5 trivial trivial trivial trivial rfl (by omega) (sortsA _) (enters_of Tryz.func132 (by kernel_rfl) rfl) 148 #[.pointer (some ⟨w.heap.size, 0, none⟩)] trivial (enters_of Tryz.func148 (by kernel_rfl) rfl) _ _ hmax hbytes _ hseq
  change CallsIn _ _ Tryz.prog 83 _ _ _ at cS
  exact (callsIn_wide (n := 5)).1 cS
set_option maxRecDepth 100000 in
theorem msorted_nil (w : World) : Calls Tryz.prog 83 #[.func (.func 148) #[] #[.pointer (some ⟨w.heap.size, 0, none⟩)]] (w.alloc (.cells #[.map none] 121)) fun e w' => e = .returned (.slice none 0 0) ∧ Below (w.alloc (.cells #[.map none] 121)).heap.size (w.alloc (.cells #[.map none] 121)) w' := by
  have hseq : SeqGives Fence.wide 2 Tryz.prog 148 #[.pointer (some ⟨w.heap.size, 0, none⟩)] encZ (fun ss : List Int => ss = []) 0 (w.alloc (.cells #[.map none] 121)) :=
    AnyZI.keys_gives_nil (ρ := layKyr) { layKy with } Fence.wide _ trivial rfl w.heap.size _ (by simp) (by simp)
  have cS := AnyZI.sorted_in laySd Fence.wide 5 trivial trivial trivial trivial rfl (by omega) (sortsA _) (enters_of Tryz.func132 (by kernel_rfl) rfl) 148 #[.pointer (some ⟨w.heap.size, 0, none⟩)] trivial (enters_of Tryz.func148 (by kernel_rfl) rfl) _ 0 (Nat.zero_le _) (by omega) _ hseq
  change CallsIn _ _ Tryz.prog 83 _ _ _ at cS
  refine ((callsIn_wide (n := 5)).1 cS).mono ?_
  rintro e w' ⟨v, ss, rfl, rfl, hrow, hnil, hb⟩
  exact ⟨by rw [hnil.2 rfl], hb⟩

/-- The keys of a row, ascending. -/
def GetKeys (w : World) (f : Value → Value) (e : Ending) (w' : World) : Prop := ∃ A k cc ks, e = .returned (.slice A k cc) ∧ Ints w' A k ks ∧ k ≤ 9223372036854775807 ∧ ks.Pairwise (· < ·) ∧ (∀ x ∈ ks, (Lit.int .i64 x).wf = true) ∧ (∀ x, (Lit.int .i64 x).wf = true → f (.int .i64 x) ≠ .slice none 0 0 → x ∈ ks) ∧ Below w.heap.size w w'
theorem nodup_intKeys {H : Type} {P : Program} {k : TypeId} {R : Value → Option (DataW H × List MemPlace)} {w : World} {b n : Nat} {D0 : DataW H} (hown : w.ownsMap P k R b n D0) (K : Keyed P k) (hk : P.underlying k = some (.int .i64)) : (intKeys D0).Nodup := by
  obtain ⟨es, hD, hpw, _⟩ := hown.entries K
  obtain ⟨es', hD', hko⟩ := hown.keysOf
  obtain rfl : es = es' := by rw [hD] at hD'; simpa using hD'
  subst hD
  show (es.map fun p => Go.intOf p.1).Nodup
  refine List.pairwise_map.2 (hpw.imp_of_mem fun {p q} hp' hq' hne e => hne ?_)
  obtain ⟨v1, hv1⟩ := hko p hp'
  obtain ⟨x1, _, hx1, _⟩ := Maps.keyOf_i64 hk hv1
  obtain ⟨v2, hv2⟩ := hko q hq'
  obtain ⟨x2, _, hx2, _⟩ := Maps.keyOf_i64 hk hv2
  rw [hx1, hx2] at e ⊢
  exact congrArg _ e
theorem sorted_asc {ss : List Int} (h : ss.Nodup) : (ss.mergeSort fun x y => decide (x ≤ y)).Pairwise (· < ·) := by
  have tr : ∀ a b c : Int, decide (a ≤ b) = true → decide (b ≤ c) = true → decide (a ≤ c) = true := fun a b c h1 h2 => by simp only [decide_eq_true_eq] at *; exact Int.le_trans h1 h2
  have tot : ∀ a b : Int, (decide (a ≤ b) || decide (b ≤ a)) = true := fun a b => by simp only [Bool.or_eq_true, decide_eq_true_eq]; exact Int.le_total a b
  have h1 := List.pairwise_mergeSort tr tot ss
  have h2 : (ss.mergeSort fun x y => decide (x ≤ y)).Nodup := (List.mergeSort_perm ss _).nodup_iff.2 h
  refine (List.Pairwise.and h1 h2).imp ?_
  rintro a b ⟨h3, h4⟩
  have h5 : a ≤ b := of_decide_eq_true h3
  omega

set_option maxRecDepth 100000 in
set_option maxHeartbeats 4000000 in
theorem keys_any (r N c0 n : Nat) (m : Nat → Option Nat) (c : Nat → Nat) (v : Nat → Value → Value) (w : World) (ht : TbB w r N m c v) (hn : n < N) (hcb : c n * 8 ≤ 140737488355328) :
    Calls Tryz.prog 60 #[.agg #[.slice (some ⟨r, 0, none⟩) N c0], .int .i64 n] w (GetKeys w (v n)) := by
  have HT := Lib.hid ht
  have hrl := ht.rtag.lt
  clear ht
  have hn1 : (n : Int) < (N : Int) := by omega
  go_enter Tryz.func60, Tryz.ntmps60
  go_upto_region 1 with fail
  refine wp_named (fun W => ∃ b0, w.heap.size = b0 ∧ Blk W b0 [.slice (some ⟨r, 0, none⟩) N c0] ∧ Below w.heap.size w W) ⟨_, rfl, ?_, ?_⟩ ?_
  · exact Blk.new _ _ _ _ (by first | rfl | simp)
  · go_grown
  rintro W ⟨b0, e0, B0, hB⟩
  rw [e0]
  have G0 : w.heap.size ≤ b0 := by omega
  clear e0
  have ⟨L0, C0, F0⟩ := B0
  have hkW : Kept [] w W := (Kept.refl _ _).call hB
  have HTW := Lib.hid (HT.out.kept hkW (by simp) (by simp))
  have hcell := HTW.out.cell hn
  have hrW : r < W.heap.size := HTW.out.rtag.lt
  cases hm : m n with
  | none =>
    rw [hm] at hcell
    have HZ := Lib.hid (HTW.out.no n hn hm)
    clear hm
    go_wp2_with (first | (go_at_call 109; refine (mkeys_any _ _).mono ?_; rintro e w1 ⟨rfl, rfl⟩) | (go_at_call 83; refine (msorted_nil _).mono ?_; rintro e w2 ⟨rfl, hb2⟩))
    go_ret
    refine ⟨none, 0, 0, [], rfl, Ints.empty _ _, by omega, List.Pairwise.nil, by simp, fun x hx h => absurd (HZ.out _) h, ?_⟩
    exact hB.trans ((((Below.refl _ W).alloc (Nat.le_refl _) _).trans (hb2.mono (by simp))).mono hB.size)
  | some b =>
    rw [hm] at hcell
    obtain ⟨D, hown, hat⟩ := HTW.out.is n b hn hm
    have hsz := hown.size_le
    have HOWN := Lib.hid hown
    have HAT := Lib.hid hat
    clear hm hown hat
    go_wp2_with (first | (go_at_call 109; refine (mkeys_any _ _).mono ?_; rintro e w1 ⟨rfl, rfl⟩) | (go_at_call 83; refine (msorted_any b (c n) D tokElem _ HOWN.out (by unfold maxLen; omega) (by omega)).mono ?_; rintro e w2 ⟨v2, ss, rfl, hS, hrow, hnil, hb2⟩; have HS := Lib.hid hS; have HROW := Lib.hid hrow; clear hS hrow hnil))
    obtain ⟨A, cc, rfl, hi, -⟩ := Ints.of_own HROW.out
    have hlen := hi.1
    have hk9 : ss.length ≤ 9223372036854775807 := by
      rcases Nat.eq_zero_or_pos ss.length with h1 | h1
      · omega
      · obtain ⟨_, c', _, _, _, h2, h3, _⟩ := own_cellsT HROW.out h1
        unfold maxLen at h3
        omega
    go_ret
    have hperm : ∀ x, x ∈ ss.mergeSort (fun x y => decide (x ≤ y)) ↔ x ∈ intKeys D := fun x => ((List.mergeSort_perm ss _).mem_iff).trans HS.out.mem_iff
    refine ⟨A, ss.length, cc, _, rfl, hi, hk9, sorted_asc (HS.out.nodup_iff.2 (nodup_intKeys HOWN.out Tryz.lawInt Tryz.underlying3)), fun x hx => intKeys_wf HOWN.out Tryz.underlying3 x ((hperm x).1 hx), fun x hx h => (hperm x).2 (has_intKeys ?_), ?_⟩
    · cases hh : Maps.has D (.int .i64 x) with
      | true => rfl
      | false =>
        have h3 := HAT.out (.int .i64 x) (.int .i64 x) (Tryz.keyInt x hx)
        rw [Maps.atKey_of_not_has hh] at h3
        injection h3 with h3
        exact absurd h3.symm h
    · exact hB.trans ((((Below.refl _ W).alloc (Nat.le_refl _) _).trans (hb2.mono (by simp))).mono hB.size)
end Go.Proofs.YtmbihjlflcjlnaaGreat
