/- The contracts of both Withins; the law ExplodedWithin; solutions that came in. (Printed by genXv.py.) -/
import Derived.Test.YtffkikhknabddaaZy
import Derived.Test.YtffkikhknabddaaZx
import Derived.Test.YtffkikhknabddaaZa
import Derived.Test.YtffkikhknabddaaLd
import Derived.Test.YtffkikhknabddaaLr
namespace Go.Df
open Go.RowKit
namespace If
/-- Does one solution hold nowhere more than another? -/
def Wi (re : List Bool) (fs : List (List Int)) (re' : List Bool) (fs' : List (List Int)) : Prop :=
  (∀ i, i < re.length → gbl re i = true → holdsS re' fs' i 0 = true) ∧ ∀ i, i < fs.length → ∀ x ∈ gil fs i, i < fs'.length ∧ x ∈ gil fs' i
theorem Wi.refl (re : List Bool) (fs : List (List Int)) : Wi re fs re fs := by
  refine ⟨fun i hi h => ?_, fun i hi x hx => ⟨hi, hx⟩⟩
  unfold holdsS
  rw [if_neg (by omega), if_pos rfl]
  simp [hi, h]
/-- The first j numbers of a list, as a map says. -/
def mwF (l : List Int) (i : Nat) : Value → Lit := fun v => match v with | .int .i64 x => .bool (decide (∃ j, j < i ∧ gi l j = x)) | _ => .bool false
theorem mwF_zero (l : List Int) (v : Value) : mwF l 0 v = .bool false := by
  unfold mwF
  split
  · exact congrArg Lit.bool (decide_eq_false (fun ⟨j, hj, _⟩ => absurd hj (by omega)))
  · rfl
theorem mwF_succ {l : List Int} {i : Nat} {y : Int} (e : gi l i = y) : mwF l (i + 1) (.int .i64 y) = .bool true ∧ ∀ x, x ≠ .int .i64 y → mwF l (i + 1) x = mwF l i x := by
  constructor
  · unfold mwF
    simp only
    exact congrArg Lit.bool (decide_eq_true ⟨i, by omega, e⟩)
  · intro x hx
    unfold mwF
    split
    · rename_i z
      refine congrArg Lit.bool ?_
      rw [decide_eq_decide]
      constructor
      · rintro ⟨j, hj, h⟩
        rcases Nat.lt_or_ge j i with h9 | h9
        · exact ⟨j, h9, h⟩
        · obtain rfl : j = i := by omega
          rw [e] at h
          subst h
          exact absurd rfl hx
      · rintro ⟨j, hj, h⟩
        exact ⟨j, by omega, h⟩
    · rfl
theorem mwF_all {l : List Int} {n : Nat} (h : l.length = n) (x : Int) : mwF l n (.int .i64 x) = .bool (decide (x ∈ l)) := by
  unfold mwF
  simp only
  refine congrArg Lit.bool ?_
  rw [decide_eq_decide]
  constructor
  · rintro ⟨j, hj, h1⟩
    rw [← h1, gi_lt (by omega)]; exact List.getElem_mem _
  · intro h1
    obtain ⟨j, hj, e⟩ := List.getElem_of_mem h1
    exact ⟨j, by omega, by rw [gi_lt hj]; exact e⟩
end If
end Go.Df
namespace Go.Proofs.Ytffkikhknabddaa
open Go.RowKit Go.Df Go.Df.If
attribute [local go_sem ↓] Go.wp_at_zero Go.wp_at_succ

set_option maxRecDepth 100000 in
set_option maxHeartbeats 8000000 in
theorem pwithin_any (A1 A2 E1 E2 : Option Addr) (n1 c1 n2 c2 m1 d1 m2 d2 : Nat) (re re' : List Bool) (fs fs' : List (List Int)) (w : World) (hr : Bls w A1 n1 re) (hf : IntsR w A2 n2 fs) (hr' : Bls w E1 m1 re') (hf' : IntsR w E2 m2 fs') (h1 : n1 ≤ 9223372036854775807) (h2 : n2 ≤ 9223372036854775807) (h3 : m1 ≤ 9223372036854775807) (h4 : m2 ≤ 9223372036854775807) (hwa : ∀ i, i < n2 → ∀ x ∈ gil fs i, (Lit.int .i64 x).wf = true) (hwb : ∀ i, i < m2 → ∀ x ∈ gil fs' i, (Lit.int .i64 x).wf = true) :
    Calls Try.prog 48 #[.agg #[.slice A1 n1 c1, .slice A2 n2 c2], .agg #[.slice E1 m1 d1, .slice E2 m2 d2]] w fun e w' => (∃ r : Bool, e = .returned (.bool r) ∧ (r = true ↔ Wi re fs re' fs')) ∧ Below w.heap.size w w' := by
  have HR := Lib.hid hr
  have HF := Lib.hid hf
  have HR' := Lib.hid hr'
  have HF' := Lib.hid hf'
  have HRL := Lib.hid hr.1
  have HFL := Lib.hid hf.1
  have HFL' := Lib.hid hf'.1
  clear hr hf hr' hf'
  have HWA := Lib.hid hwa
  have HWB := Lib.hid hwb
  have hmm := @run_makeMap Try.prog
  clear hwa hwb
  go_enter Try.func48, Try.ntmps48
  go_upto_region 1 with fail
  refine wp_named (fun W => ∃ b0 b1, w.heap.size = b0 ∧ w.heap.size + 1 = b1 ∧ Blk W b0 [.slice A1 n1 c1, .slice A2 n2 c2] ∧ Blk W b1 [.slice E1 m1 d1, .slice E2 m2 d2] ∧ Below w.heap.size w W) ⟨_, _, rfl, rfl, ?_, ?_, ?_⟩ ?_
  · exact (Blk.new _ _ _ _ (by first | rfl | simp)).alloc _
  · exact Blk.new _ _ _ _ (by first | rfl | simp)
  · go_grown
  rintro W ⟨b0, b1, e0, e1, B0, B1, hB⟩
  rw [e1, e0]
  have G0 : w.heap.size ≤ b0 := by omega
  have n01 : b0 ≠ b1 := by omega
  have G1 : w.heap.size ≤ b1 := by omega
  have n10 : b1 ≠ b0 := by omega
  clear e0 e1
  have ⟨L0, C0, F0⟩ := B0
  have ⟨L1, C1, F1⟩ := B1
  have hkW : Kept [] w W := (Kept.refl _ _).call hB
  go_wp2_with fail
  go_loopw [17] (fun s wr => ∃ i : Nat, i ≤ n1 ∧ s = .int .i64 i ∧ Kept [] W wr ∧ Hid (∀ x, x < i → gbl re x = true → holdsS re' fs' x 0 = true)) (fun s _ => n1 - (intOf s).toNat)
  case atStart => exact ⟨0, Nat.zero_le _, rfl, Kept.refl _ _, Lib.hid (fun x h => absurd h (by omega))⟩
  case round =>
  clear C0 F0 C1 F1
  obtain ⟨i, hi, rfl, hkr, hre⟩ := hrel
  have hkwr : Kept [] w wr := keptTrans hkW hkr
  have ⟨LR, CR, FR⟩ := hkr.blk (by simp) B0
  have ⟨LR', CR', FR'⟩ := hkr.blk (by simp) B1
  by_cases hlt : i < n1
  · obtain ⟨b4, o1, rfl, hl1, hc1⟩ := HR.out.2 (by omega)
    have r1 := (hkwr.cell b4 _ hl1 (by simp)).trans (hc1 i hlt)
    have hl1r : b4 < wr.heap.size := Nat.lt_of_lt_of_le hl1 hkwr.size
    have hi1 : (i : Int) < (n1 : Int) := by omega
    obtain ⟨v, hv⟩ : ∃ v, gbl re i = v := ⟨_, rfl⟩
    rw [hv] at r1
    have HV := Lib.hid hv
    clear hc1 hv
    cases v with
    | false =>
      have HN : Hid (∀ x, x < i + 1 → gbl re x = true → holdsS re' fs' x 0 = true) := Lib.hid (fun x hx h => by
        rcases Nat.lt_or_ge x i with h9 | h9
        · exact hre.out x h9 h
        · obtain rfl : x = i := by omega
          rw [HV.out] at h; cases h)
      go_wp2_with fail
      exact ⟨⟨i + 1, by omega, by go_num, hkr, HN⟩, by simp [intOf]; omega⟩
    | true =>
      obtain ⟨u, hu⟩ : ∃ u, holdsS re' fs' i 0 = u := ⟨_, rfl⟩
      have HU := Lib.hid hu
      clear hu
      cases u with
      | true =>
        have HN : Hid (∀ x, x < i + 1 → gbl re x = true → holdsS re' fs' x 0 = true) := Lib.hid (fun x hx h => by
          rcases Nat.lt_or_ge x i with h9 | h9
          · exact hre.out x h9 h
          · obtain rfl : x = i := by omega
            exact HU.out)
        go_wp2_with (go_at_call 31; refine (holds_any E1 E2 m1 d1 m2 d2 re' fs' i 0 _ (HR'.out.later hkwr.toBelow) (HF'.out.later hkwr.toBelow) h3 h4).mono ?_; rw [HU.out]; rintro e w3 ⟨rfl, hb3⟩)
        exact ⟨⟨i + 1, by omega, by go_num, hkr.call hb3, HN⟩, by simp [intOf]; omega⟩
      | false =>
        have HNO : Hid (¬ Wi re fs re' fs') := Lib.hid (fun h => by have h9 := h.1 i (by rw [HRL.out]; exact hlt) HV.out; rw [HU.out] at h9; cases h9)
        go_wp2_with (go_at_call 31; refine (holds_any E1 E2 m1 d1 m2 d2 re' fs' i 0 _ (HR'.out.later hkwr.toBelow) (HF'.out.later hkwr.toBelow) h3 h4).mono ?_; rw [HU.out]; rintro e w3 ⟨rfl, hb3⟩)
        go_ret
        exact ⟨⟨false, rfl, ⟨fun h => (by cases h), fun h => absurd h HNO.out⟩⟩, (hkwr.call hb3).toBelow⟩
  obtain rfl : i = n1 := by omega
  have HRE : Hid (∀ x, x < re.length → gbl re x = true → holdsS re' fs' x 0 = true) := Lib.hid (fun x hx => hre.out x (by rw [← HRL.out]; exact hx))
  have hkr0 := hkr
  clear hlt hre hi
  go_wp2_with fail
  go_loopw [33] (fun s wz => ∃ i : Nat, i ≤ n2 ∧ s = .int .i64 i ∧ Kept [] W wz ∧ Hid (∀ x, x < i → ∀ y ∈ gil fs x, x < m2 ∧ y ∈ gil fs' x)) (fun s _ => n2 - (intOf s).toNat)
  case atStart => exact ⟨0, Nat.zero_le _, rfl, hkr0, Lib.hid (fun x h => absurd h (by omega))⟩
  case round =>
  rename World => wz
  clear CR FR CR' FR'
  obtain ⟨i, hi, rfl, hkz, hall⟩ := hrel
  have hkwz : Kept [] w wz := keptTrans hkW hkz
  have ⟨LZ, CZ, FZ⟩ := hkz.blk (by simp) B0
  have ⟨LZ', CZ', FZ'⟩ := hkz.blk (by simp) B1
  by_cases hlt : i < n2
  case neg =>
    obtain rfl : i = n2 := by omega
    have HYES : Hid (Wi re fs re' fs') := Lib.hid ⟨HRE.out, fun x hx y hy => by rw [HFL'.out]; exact hall.out x (by rw [← HFL.out]; exact hx) y hy⟩
    go_wp2_with fail
    go_ret
    exact ⟨⟨true, rfl, ⟨fun _ => HYES.out, fun _ => rfl⟩⟩, hkwz.toBelow⟩
  obtain ⟨b6, o6, rfl, hl6, hc6⟩ := HF.out.2 (by omega)
  obtain ⟨Ai, ni, ci, hcell6, hpi, hni⟩ := hc6 i hlt
  have r6 := (hkwz.cell b6 _ hl6 (by simp)).trans hcell6
  have hl6z : b6 < wz.heap.size := Nat.lt_of_lt_of_le hl6 hkwz.size
  have HPI := Lib.hid hpi
  have HPL := Lib.hid hpi.1
  have hi1 : (i : Int) < (n2 : Int) := by omega
  clear hc6 hcell6 hpi
  go_upto_region 11 with fail
  refine wp_named (fun V => ∃ p, wz.heap.size = p ∧ MapV Try.prog 3 4 (.bool false) V p 0 (fun _ => .bool false) ∧ Kept [] wz V) ⟨_, rfl, MapV.made _ _ _ _ _ _ rfl, (Kept.refl _ _).alloc _⟩ ?_
  rintro V ⟨p, ep, Mp, hkzV⟩
  rw [ep]
  have hpz : wz.heap.size ≤ p := by omega
  have hkV : Kept [] W V := keptTrans hkz hkzV
  have hkwV : Kept [] w V := keptTrans hkW hkV
  have BV0 := hkV.blk (by simp) B0
  have BV1 := hkV.blk (by simp) B1
  have ⟨LV, CV, FV⟩ := BV0
  have ⟨LV', CV', FV'⟩ := BV1
  have MP := Lib.hid Mp
  clear CZ FZ CZ' FZ' r6 ep Mp
  by_cases him : i < m2
  case neg =>
    have hi2 : ¬ (i : Int) < (m2 : Int) := by omega
    have hkB := hkV
    obtain ⟨gF, hgF⟩ : ∃ gF : Value → Lit, (fun _ => Lit.bool false) = gF := ⟨_, rfl⟩
    have HGF : Hid (∀ x : Int, gF (.int .i64 x) = .bool (decide (i < m2 ∧ x ∈ gil fs' i))) := Lib.hid (fun x => by rw [← hgF, decide_eq_false (fun h => him h.1)])
    have MQ : Hid (MapV Try.prog 3 4 (.bool false) V p 0 gF) := Lib.hid (by rw [← hgF]; exact MP.out)
    clear him hgF
    go_wp2_with fail
    go_loopw [59] (fun s wq => ∃ q : Nat, q ≤ ni ∧ s = .int .i64 q ∧ Kept [] V wq ∧ Hid (∀ z, z < q → i < m2 ∧ gi (gil fs i) z ∈ gil fs' i)) (fun s _ => ni - (intOf s).toNat)
    case atStart => exact ⟨0, Nat.zero_le _, rfl, Kept.refl _ _, Lib.hid (fun z hz => absurd hz (by omega))⟩
    case round =>
      rename World => wq
      obtain ⟨q, hq, rfl, hkq, hin⟩ := hrel
      have hkBq : Kept [] W wq := keptTrans hkB hkq
      have hkwq : Kept [] w wq := keptTrans hkW hkBq
      by_cases hltq : q < ni
      case neg =>
        obtain rfl : q = ni := by omega
        have HN2 : Hid (∀ z, z < i + 1 → ∀ y ∈ gil fs z, z < m2 ∧ y ∈ gil fs' z) := Lib.hid (fun z hz y hy => by
          rcases Nat.lt_or_ge z i with h9 | h9
          · exact hall.out z h9 y hy
          · obtain rfl : z = i := by omega
            obtain ⟨t, ht, e⟩ := List.getElem_of_mem hy
            rw [← e, ← gi_lt ht]
            exact hin.out t (by rw [← HPL.out]; exact ht))
        go_wp2_with fail
        exact ⟨⟨i + 1, by omega, by go_num, hkBq, HN2⟩, by simp [intOf]; omega⟩
      obtain ⟨b8, o8, rfl, hl8, hc8⟩ := HPI.out.2 (by omega)
      have r8 := (hkwq.cell b8 _ hl8 (by simp)).trans (hc8 q hltq)
      have hl8q : b8 < wq.heap.size := Nat.lt_of_lt_of_le hl8 hkwq.size
      obtain ⟨y, hy⟩ : ∃ y, gi (gil fs i) q = y := ⟨_, rfl⟩
      rw [hy] at r8
      have HY := Lib.hid hy
      have hq1 : (q : Int) < (ni : Int) := by omega
      have HKY := Lib.hid (Try.keyInt y (HWA.out i hlt y (by rw [← hy, gi_lt (by rw [HPL.out]; exact hltq)]; exact List.getElem_mem _)))
      have MX := Lib.hid (MQ.out.kept hkq (by simp))
      obtain ⟨v, hv⟩ : ∃ v, decide (i < m2 ∧ y ∈ gil fs' i) = v := ⟨_, rfl⟩
      have HV := Lib.hid (show gF (.int .i64 y) = .bool v by rw [HGF.out, hv])
      have HV2 := Lib.hid hv
      clear hc8 hy hv
      cases v with
      | true =>
        have HI2 : Hid (∀ z, z < q + 1 → i < m2 ∧ gi (gil fs i) z ∈ gil fs' i) := Lib.hid (fun z hz => by
          rcases Nat.lt_or_ge z q with h9 | h9
          · exact hin.out z h9
          · obtain rfl : z = q := by omega
            rw [HY.out]
            exact of_decide_eq_true HV2.out)
        go_wp2_with (at_lookup; refine wpList_look_bool _ rfl _ _ 139 rfl 3 4 Try.lawInt mapIB Try.undBool (Try.zeroBool _) p 0 _ rfl MX.out (.int .i64 y) _ rfl HKY.out true HV.out ?_)
        exact ⟨⟨q + 1, by omega, by go_num, hkq, HI2⟩, by simp [intOf]; omega⟩
      | false =>
        have HNO : Hid (¬ Wi re fs re' fs') := Lib.hid (fun h => of_decide_eq_false HV2.out (by
          have h9 := h.2 i (by rw [HFL.out]; exact hlt) y (by rw [← HY.out, gi_lt (by rw [HPL.out]; exact hltq)]; exact List.getElem_mem _)
          rw [HFL'.out] at h9
          exact h9))
        go_wp2_with (at_lookup; refine wpList_look_bool _ rfl _ _ 139 rfl 3 4 Try.lawInt mapIB Try.undBool (Try.zeroBool _) p 0 _ rfl MX.out (.int .i64 y) _ rfl HKY.out false HV.out ?_)
        go_ret
        exact ⟨⟨false, rfl, ⟨fun h => (by cases h), fun h => absurd h HNO.out⟩⟩, hkwq.toBelow⟩
  have hi2 : (i : Int) < (m2 : Int) := by omega
  obtain ⟨b7, o7, rfl, hl7, hc7⟩ := HF'.out.2 (by omega)
  obtain ⟨Bi, mi, di, hcell7, hpi', hmi⟩ := hc7 i him
  have r7 := (hkwV.cell b7 _ hl7 (by simp)).trans hcell7
  have hl7V : b7 < V.heap.size := Nat.lt_of_lt_of_le hl7 hkwV.size
  have HPI' := Lib.hid hpi'
  have HPL' := Lib.hid hpi'.1
  have M0 : Hid (MapV Try.prog 3 4 (.bool false) V p 0 (mwF (gil fs' i) 0)) := Lib.hid (MP.out.ext (fun key _ _ => (mwF_zero _ _).symm))
  clear hc7 hcell7 hpi'
  go_wp2_with fail
  go_loopw [50] (fun s wp => ∃ j : Nat, j ≤ mi ∧ s = .int .i64 j ∧ Kept [p] V wp ∧ Hid (MapV Try.prog 3 4 (.bool false) wp p j (mwF (gil fs' i) j))) (fun s _ => mi - (intOf s).toNat)
  case atStart => exact ⟨0, Nat.zero_le _, rfl, Kept.refl _ _, M0⟩
  case round =>
  rename World => wp
  clear CV FV CV' FV' r7
  obtain ⟨j, hj, rfl, hkp, mp⟩ := hrel
  have hkzp : Kept [] wz wp := kept_fresh hkzV hkp (by simpa using hpz)
  have hkB : Kept [] W wp := keptTrans hkz hkzp
  have hkwp : Kept [] w wp := keptTrans hkW hkB
  by_cases hltj : j < mi
  · obtain ⟨b9, o9, rfl, hl9, hc9⟩ := HPI'.out.2 (by omega)
    have r9 := (hkwp.cell b9 _ hl9 (by simp)).trans (hc9 j hltj)
    have hl9p : b9 < wp.heap.size := Nat.lt_of_lt_of_le hl9 hkwp.size
    obtain ⟨y, hy⟩ : ∃ y, gi (gil fs' i) j = y := ⟨_, rfl⟩
    rw [hy] at r9
    have hj9 : (j : Int) < (mi : Int) := by omega
    have HKY := Lib.hid (Try.keyInt y (HWB.out i him y (by rw [← hy, gi_lt (by rw [HPL'.out]; exact hltj)]; exact List.getElem_mem _)))
    have HS1 := Lib.hid (mwF_succ hy).1
    have HS2 := Lib.hid (mwF_succ hy).2
    clear hc9 hy
    go_wp2_with (at_mapUpdate; refine wpList_store_map _ rfl _ _ _ 139 rfl 3 4 Try.lawInt mapIB (.bool false) p j _ rfl mp.out (by unfold maxLen; omega) (.int .i64 y) (.bool true) (.int .i64 y) _ rfl rfl HKY.out pEltT (mwF (gil fs' i) (j + 1)) HS1.out HS2.out ?_; intro w2 M2u hs2; have M2 := Lib.hid M2u; clear M2u)
    exact ⟨⟨j + 1, by omega, by go_num, hkp.next hs2 (by simp), M2⟩, by simp [intOf]; omega⟩
  obtain rfl : j = mi := by omega
  obtain ⟨gF, hgF⟩ : ∃ gF : Value → Lit, mwF (gil fs' i) j = gF := ⟨_, rfl⟩
  have HGF : Hid (∀ x : Int, gF (.int .i64 x) = .bool (decide (i < m2 ∧ x ∈ gil fs' i))) := Lib.hid (fun x => by
    rw [← hgF, mwF_all HPL'.out]
    refine congrArg Lit.bool ?_
    rw [decide_eq_decide]
    exact ⟨fun h => ⟨him, h⟩, fun h => h.2⟩)
  have MQ : Hid (MapV Try.prog 3 4 (.bool false) wp p j gF) := Lib.hid (by rw [← hgF]; exact mp.out)
  clear hltj hgF
  go_wp2_with fail
  go_loopw [59] (fun s wq => ∃ q : Nat, q ≤ ni ∧ s = .int .i64 q ∧ Kept [] wp wq ∧ Hid (∀ z, z < q → i < m2 ∧ gi (gil fs i) z ∈ gil fs' i)) (fun s _ => ni - (intOf s).toNat)
  case atStart => exact ⟨0, Nat.zero_le _, rfl, Kept.refl _ _, Lib.hid (fun z hz => absurd hz (by omega))⟩
  case round =>
    rename World => wq
    obtain ⟨q, hq, rfl, hkq, hin⟩ := hrel
    have hkBq : Kept [] W wq := keptTrans hkB hkq
    have hkwq : Kept [] w wq := keptTrans hkW hkBq
    by_cases hltq : q < ni
    case neg =>
      obtain rfl : q = ni := by omega
      have HN2 : Hid (∀ z, z < i + 1 → ∀ y ∈ gil fs z, z < m2 ∧ y ∈ gil fs' z) := Lib.hid (fun z hz y hy => by
        rcases Nat.lt_or_ge z i with h9 | h9
        · exact hall.out z h9 y hy
        · obtain rfl : z = i := by omega
          obtain ⟨t, ht, e⟩ := List.getElem_of_mem hy
          rw [← e, ← gi_lt ht]
          exact hin.out t (by rw [← HPL.out]; exact ht))
      go_wp2_with fail
      exact ⟨⟨i + 1, by omega, by go_num, hkBq, HN2⟩, by simp [intOf]; omega⟩
    obtain ⟨b8, o8, rfl, hl8, hc8⟩ := HPI.out.2 (by omega)
    have r8 := (hkwq.cell b8 _ hl8 (by simp)).trans (hc8 q hltq)
    have hl8q : b8 < wq.heap.size := Nat.lt_of_lt_of_le hl8 hkwq.size
    obtain ⟨y, hy⟩ : ∃ y, gi (gil fs i) q = y := ⟨_, rfl⟩
    rw [hy] at r8
    have HY := Lib.hid hy
    have hq1 : (q : Int) < (ni : Int) := by omega
    have HKY := Lib.hid (Try.keyInt y (HWA.out i hlt y (by rw [← hy, gi_lt (by rw [HPL.out]; exact hltq)]; exact List.getElem_mem _)))
    have MX := Lib.hid (MQ.out.kept hkq (by simp))
    obtain ⟨v, hv⟩ : ∃ v, decide (i < m2 ∧ y ∈ gil fs' i) = v := ⟨_, rfl⟩
    have HV := Lib.hid (show gF (.int .i64 y) = .bool v by rw [HGF.out, hv])
    have HV2 := Lib.hid hv
    clear hc8 hy hv
    cases v with
    | true =>
      have HI2 : Hid (∀ z, z < q + 1 → i < m2 ∧ gi (gil fs i) z ∈ gil fs' i) := Lib.hid (fun z hz => by
        rcases Nat.lt_or_ge z q with h9 | h9
        · exact hin.out z h9
        · obtain rfl : z = q := by omega
          rw [HY.out]
          exact of_decide_eq_true HV2.out)
      go_wp2_with (at_lookup; refine wpList_look_bool _ rfl _ _ 139 rfl 3 4 Try.lawInt mapIB Try.undBool (Try.zeroBool _) p j _ rfl MX.out (.int .i64 y) _ rfl HKY.out true HV.out ?_)
      exact ⟨⟨q + 1, by omega, by go_num, hkq, HI2⟩, by simp [intOf]; omega⟩
    | false =>
      have HNO : Hid (¬ Wi re fs re' fs') := Lib.hid (fun h => of_decide_eq_false HV2.out (by
        have h9 := h.2 i (by rw [HFL.out]; exact hlt) y (by rw [← HY.out, gi_lt (by rw [HPL.out]; exact hltq)]; exact List.getElem_mem _)
        rw [HFL'.out] at h9
        exact h9))
      go_wp2_with (at_lookup; refine wpList_look_bool _ rfl _ _ 139 rfl 3 4 Try.lawInt mapIB Try.undBool (Try.zeroBool _) p j _ rfl MX.out (.int .i64 y) _ rfl HKY.out false HV.out ?_)
      go_ret
      exact ⟨⟨false, rfl, ⟨fun h => (by cases h), fun h => absurd h HNO.out⟩⟩, hkwq.toBelow⟩

set_option maxRecDepth 100000 in
set_option maxHeartbeats 8000000 in
theorem rwithin_any (A1 A2 E1 E2 : Option Addr) (n1 c1 n2 c2 m1 d1 m2 d2 : Nat) (re re' : List Bool) (fs fs' : List (List Int)) (w : World) (hr : Bls w A1 n1 re) (hf : IntsR w A2 n2 fs) (hr' : Bls w E1 m1 re') (hf' : IntsR w E2 m2 fs') (h1 : n1 ≤ 9223372036854775807) (h2 : n2 ≤ 9223372036854775807) (h3 : m1 ≤ 9223372036854775807) (h4 : m2 ≤ 9223372036854775807) :
    Calls Try.prog 49 #[.agg #[.slice A1 n1 c1, .slice A2 n2 c2], .agg #[.slice E1 m1 d1, .slice E2 m2 d2]] w fun e w' => (∃ r : Bool, e = .returned (.bool r) ∧ (r = true ↔ Wi re fs re' fs')) ∧ Below w.heap.size w w' := by
  have HR := Lib.hid hr
  have HF := Lib.hid hf
  have HR' := Lib.hid hr'
  have HF' := Lib.hid hf'
  have HRL := Lib.hid hr.1
  have HFL := Lib.hid hf.1
  have HFL' := Lib.hid hf'.1
  clear hr hf hr' hf'
  go_enter Try.func49, Try.ntmps49
  go_upto_region 1 with fail
  refine wp_named (fun W => ∃ b0 b1, w.heap.size = b0 ∧ w.heap.size + 1 = b1 ∧ Blk W b0 [.slice A1 n1 c1, .slice A2 n2 c2] ∧ Blk W b1 [.slice E1 m1 d1, .slice E2 m2 d2] ∧ Below w.heap.size w W) ⟨_, _, rfl, rfl, ?_, ?_, ?_⟩ ?_
  · exact (Blk.new _ _ _ _ (by first | rfl | simp)).alloc _
  · exact Blk.new _ _ _ _ (by first | rfl | simp)
  · go_grown
  rintro W ⟨b0, b1, e0, e1, B0, B1, hB⟩
  rw [e1, e0]
  have G0 : w.heap.size ≤ b0 := by omega
  have n01 : b0 ≠ b1 := by omega
  have G1 : w.heap.size ≤ b1 := by omega
  have n10 : b1 ≠ b0 := by omega
  clear e0 e1
  have ⟨L0, C0, F0⟩ := B0
  have ⟨L1, C1, F1⟩ := B1
  have hkW : Kept [] w W := (Kept.refl _ _).call hB
  go_wp2_with fail
  go_loopw [5] (fun s wr => ∃ i : Nat, i ≤ n1 ∧ s = .int .i64 i ∧ Kept [] W wr ∧ Hid (∀ x, x < i → gbl re x = true → holdsS re' fs' x 0 = true)) (fun s _ => n1 - (intOf s).toNat)
  case atStart => exact ⟨0, Nat.zero_le _, rfl, Kept.refl _ _, Lib.hid (fun x h => absurd h (by omega))⟩
  case round =>
  clear C0 F0 C1 F1
  obtain ⟨i, hi, rfl, hkr, hre⟩ := hrel
  have hkwr : Kept [] w wr := keptTrans hkW hkr
  have ⟨LR, CR, FR⟩ := hkr.blk (by simp) B0
  have ⟨LR', CR', FR'⟩ := hkr.blk (by simp) B1
  by_cases hlt : i < n1
  · obtain ⟨b4, o1, rfl, hl1, hc1⟩ := HR.out.2 (by omega)
    have r1 := (hkwr.cell b4 _ hl1 (by simp)).trans (hc1 i hlt)
    have hl1r : b4 < wr.heap.size := Nat.lt_of_lt_of_le hl1 hkwr.size
    have hi1 : (i : Int) < (n1 : Int) := by omega
    obtain ⟨v, hv⟩ : ∃ v, gbl re i = v := ⟨_, rfl⟩
    rw [hv] at r1
    have HV := Lib.hid hv
    clear hc1 hv
    cases v with
    | false =>
      have HN : Hid (∀ x, x < i + 1 → gbl re x = true → holdsS re' fs' x 0 = true) := Lib.hid (fun x hx h => by
        rcases Nat.lt_or_ge x i with h9 | h9
        · exact hre.out x h9 h
        · obtain rfl : x = i := by omega
          rw [HV.out] at h; cases h)
      go_wp2_with fail
      exact ⟨⟨i + 1, by omega, by go_num, hkr, HN⟩, by simp [intOf]; omega⟩
    | true =>
      obtain ⟨u, hu⟩ : ∃ u, holdsS re' fs' i 0 = u := ⟨_, rfl⟩
      have HU := Lib.hid hu
      clear hu
      cases u with
      | true =>
        have HN : Hid (∀ x, x < i + 1 → gbl re x = true → holdsS re' fs' x 0 = true) := Lib.hid (fun x hx h => by
          rcases Nat.lt_or_ge x i with h9 | h9
          · exact hre.out x h9 h
          · obtain rfl : x = i := by omega
            exact HU.out)
        go_wp2_with (go_at_call 32; refine (rholds_any E1 E2 m1 d1 m2 d2 re' fs' i 0 _ (HR'.out.later hkwr.toBelow) (HF'.out.later hkwr.toBelow) h3 h4).mono ?_; rw [HU.out]; rintro e w3 ⟨rfl, hb3⟩)
        exact ⟨⟨i + 1, by omega, by go_num, hkr.call hb3, HN⟩, by simp [intOf]; omega⟩
      | false =>
        have HNO : Hid (¬ Wi re fs re' fs') := Lib.hid (fun h => by have h9 := h.1 i (by rw [HRL.out]; exact hlt) HV.out; rw [HU.out] at h9; cases h9)
        go_wp2_with (go_at_call 32; refine (rholds_any E1 E2 m1 d1 m2 d2 re' fs' i 0 _ (HR'.out.later hkwr.toBelow) (HF'.out.later hkwr.toBelow) h3 h4).mono ?_; rw [HU.out]; rintro e w3 ⟨rfl, hb3⟩)
        go_ret
        exact ⟨⟨false, rfl, ⟨fun h => (by cases h), fun h => absurd h HNO.out⟩⟩, (hkwr.call hb3).toBelow⟩
  obtain rfl : i = n1 := by omega
  have HRE : Hid (∀ x, x < re.length → gbl re x = true → holdsS re' fs' x 0 = true) := Lib.hid (fun x hx => hre.out x (by rw [← HRL.out]; exact hx))
  have hkr0 := hkr
  clear hlt hre hi
  go_wp2_with fail
  go_loopw [6] (fun s wz => ∃ i : Nat, i ≤ n2 ∧ s = .int .i64 i ∧ Kept [] W wz ∧ Hid (∀ x, x < i → ∀ y ∈ gil fs x, x < m2 ∧ y ∈ gil fs' x)) (fun s _ => n2 - (intOf s).toNat)
  case atStart => exact ⟨0, Nat.zero_le _, rfl, hkr0, Lib.hid (fun x h => absurd h (by omega))⟩
  case round =>
  rename World => wz
  clear CR FR CR' FR'
  obtain ⟨i, hi, rfl, hkz, hall⟩ := hrel
  have hkwz : Kept [] w wz := keptTrans hkW hkz
  have ⟨LZ, CZ, FZ⟩ := hkz.blk (by simp) B0
  have ⟨LZ', CZ', FZ'⟩ := hkz.blk (by simp) B1
  by_cases hlt : i < n2
  case neg =>
    obtain rfl : i = n2 := by omega
    have HYES : Hid (Wi re fs re' fs') := Lib.hid ⟨HRE.out, fun x hx y hy => by rw [HFL'.out]; exact hall.out x (by rw [← HFL.out]; exact hx) y hy⟩
    go_wp2_with fail
    go_ret
    exact ⟨⟨true, rfl, ⟨fun _ => HYES.out, fun _ => rfl⟩⟩, hkwz.toBelow⟩
  obtain ⟨b6, o6, rfl, hl6, hc6⟩ := HF.out.2 (by omega)
  obtain ⟨Ai, ni, ci, hcell6, hpi, hni⟩ := hc6 i hlt
  have HC6 := Lib.hid hcell6
  have HPI := Lib.hid hpi
  have HPL := Lib.hid hpi.1
  have hi1 : (i : Int) < (n2 : Int) := by omega
  clear hc6 hcell6 hpi
  go_wp2_with fail
  go_loopw [7] (fun s wq => ∃ q : Nat, q ≤ ni ∧ s = .int .i64 q ∧ Kept [] wz wq ∧ Hid (∀ z, z < q → i < m2 ∧ gi (gil fs i) z ∈ gil fs' i)) (fun s _ => ni - (intOf s).toNat)
  case atStart => exact ⟨0, Nat.zero_le _, rfl, Kept.refl _ _, Lib.hid (fun z hz => absurd hz (by omega))⟩
  case round =>
  rename World => wq
  clear CZ FZ CZ' FZ'
  obtain ⟨q, hq, rfl, hkq, hin⟩ := hrel
  have hkWq : Kept [] W wq := keptTrans hkz hkq
  have hkwq : Kept [] w wq := keptTrans hkW hkWq
  have ⟨LQ, CQ, FQ⟩ := hkWq.blk (by simp) B0
  have ⟨LQ', CQ', FQ'⟩ := hkWq.blk (by simp) B1
  have r6 := (hkwq.cell b6 _ hl6 (by simp)).trans HC6.out
  have hl6q : b6 < wq.heap.size := Nat.lt_of_lt_of_le hl6 hkwq.size
  by_cases hltq : q < ni
  case neg =>
    obtain rfl : q = ni := by omega
    have HN2 : Hid (∀ z, z < i + 1 → ∀ y ∈ gil fs z, z < m2 ∧ y ∈ gil fs' z) := Lib.hid (fun z hz y hy => by
      rcases Nat.lt_or_ge z i with h9 | h9
      · exact hall.out z h9 y hy
      · obtain rfl : z = i := by omega
        obtain ⟨t, ht, e⟩ := List.getElem_of_mem hy
        rw [← e, ← gi_lt ht]
        exact hin.out t (by rw [← HPL.out]; exact ht))
    go_wp2_with fail
    exact ⟨⟨i + 1, by omega, by go_num, hkWq, HN2⟩, by simp [intOf]; omega⟩
  obtain ⟨b8, o8, rfl, hl8, hc8⟩ := HPI.out.2 (by omega)
  have r8 := (hkwq.cell b8 _ hl8 (by simp)).trans (hc8 q hltq)
  have hl8q : b8 < wq.heap.size := Nat.lt_of_lt_of_le hl8 hkwq.size
  obtain ⟨y, hy⟩ : ∃ y, gi (gil fs i) q = y := ⟨_, rfl⟩
  rw [hy] at r8
  have HY := Lib.hid hy
  have hq1 : (q : Int) < (ni : Int) := by omega
  have HNOT : Hid (¬ (i < m2 ∧ y ∈ gil fs' i) → ¬ Wi re fs re' fs') := Lib.hid (fun h0 h => h0 (by
    have h9 := h.2 i (by rw [HFL.out]; exact hlt) y (by rw [← HY.out, gi_lt (by rw [HPL.out]; exact hltq)]; exact List.getElem_mem _)
    rw [HFL'.out] at h9
    exact h9))
  clear hc8 hy
  by_cases him : i < m2
  case neg =>
    have z1 : decide ((m2 : Int) ≤ (i : Int)) = true := decide_eq_true (by omega)
    have z2 : decide (m2 ≤ i) = true := decide_eq_true (by omega)
    have HNO := Lib.hid (HNOT.out (fun h => him h.1))
    clear him
    go_upto_region 12 with fail
    refine wp_region_E 21 (fun w' => SX0 wq w') (by kernel_rfl) (by (repeat' first | (with_reducible assumption) | (with_reducible exact SX0.init _) | (with_reducible exact SX0.refl _) | (with_reducible refine SX0.alloc ?_ _) | (with_reducible refine SX0.call ?_ (by assumption)) | (with_reducible refine SX0.set ?_ _ _ _ ?_) | (with_reducible refine SX0.drew ?_) | (simp; done) | omega | (simp; omega))) (fun hHeld => ?_)
    refine WE_take 0 (v := ?_) rfl (by kernel_rfl) (fun _ _ _ h => h) (Or.inl ⟨by rfl, ?_⟩) (by assumption) ?_; rotate_left; (· intro w9 hSw; (try dsimp only at hSw); go_simp; try with_reducible rfl); (try simp only [Act.put, List.setIfInBounds_toArray, List.set_cons_zero, List.set_cons_succ])
    refine WE_take 1 (v := ?_) rfl (by kernel_rfl) (fun _ _ _ h => h) (Or.inl ⟨by rfl, ?_⟩) (by assumption) ?_; rotate_left; (· intro w9 hSw; (try dsimp only at hSw); go_simp; try with_reducible rfl); (try simp only [Act.put, List.setIfInBounds_toArray, List.set_cons_zero, List.set_cons_succ])
    refine WE_take 2 (v := ?_) rfl (by kernel_rfl) (fun _ _ _ h => h) (Or.inl ⟨by rfl, ?_⟩) (by assumption) ?_; rotate_left; (· intro w9 hSw; (try dsimp only at hSw); go_simp; try with_reducible rfl); (try simp only [Act.put, List.setIfInBounds_toArray, List.set_cons_zero, List.set_cons_succ])
    refine WE_take 3 (v := ?_) rfl (by kernel_rfl) (fun _ _ _ h => h) (Or.inl ⟨by rfl, ?_⟩) (by assumption) ?_; rotate_left; (· intro w9 hSw; (try dsimp only at hSw); go_simp; try with_reducible rfl); (try simp only [Act.put, List.setIfInBounds_toArray, List.set_cons_zero, List.set_cons_succ])
    refine WE_take 4 (v := ?_) rfl (by kernel_rfl) (fun _ _ _ h => h) (Or.inl ⟨by rfl, ?_⟩) (by assumption) ?_; rotate_left; (· intro w9 hSw; (try dsimp only at hSw); go_simp; try with_reducible rfl); (try simp only [Act.put, List.setIfInBounds_toArray, List.set_cons_zero, List.set_cons_succ])
    refine WE_take 5 (v := ?_) rfl (by kernel_rfl) (fun _ _ _ h => h) (Or.inl ⟨by rfl, ?_⟩) (by assumption) ?_; rotate_left; (· intro w9 hSw; (try dsimp only at hSw); go_simp; try with_reducible rfl); (try simp only [Act.put, List.setIfInBounds_toArray, List.set_cons_zero, List.set_cons_succ])
    first | (refine WE_take 6 (v := undef) rfl (by kernel_rfl) (fun _ _ _ h => h) (Or.inr ⟨by rfl, rfl⟩) (by assumption) ?_; (try simp only [Act.put, List.setIfInBounds_toArray, List.set_cons_zero, List.set_cons_succ])) | (refine WE_take 6 (v := ?_) rfl (by kernel_rfl) (fun _ _ _ h => h) (Or.inl ⟨by rfl, ?_⟩) (by assumption) ?_; rotate_left; (· intro w9 hSw; (try dsimp only at hSw); go_simp; try with_reducible rfl); (try simp only [Act.put, List.setIfInBounds_toArray, List.set_cons_zero, List.set_cons_succ]))
    first | (refine WE_take 7 (v := undef) rfl (by kernel_rfl) (fun _ _ _ h => h) (Or.inr ⟨by rfl, rfl⟩) (by assumption) ?_; (try simp only [Act.put, List.setIfInBounds_toArray, List.set_cons_zero, List.set_cons_succ])) | (refine WE_take 7 (v := ?_) rfl (by kernel_rfl) (fun _ _ _ h => h) (Or.inl ⟨by rfl, ?_⟩) (by assumption) ?_; rotate_left; (· intro w9 hSw; (try dsimp only at hSw); go_simp; try with_reducible rfl); (try simp only [Act.put, List.setIfInBounds_toArray, List.set_cons_zero, List.set_cons_succ]))
    first | (refine WE_take 8 (v := undef) rfl (by kernel_rfl) (fun _ _ _ h => h) (Or.inr ⟨by rfl, rfl⟩) (by assumption) ?_; (try simp only [Act.put, List.setIfInBounds_toArray, List.set_cons_zero, List.set_cons_succ])) | (refine WE_take 8 (v := ?_) rfl (by kernel_rfl) (fun _ _ _ h => h) (Or.inl ⟨by rfl, ?_⟩) (by assumption) ?_; rotate_left; (· intro w9 hSw; (try dsimp only at hSw); go_simp; try with_reducible rfl); (try simp only [Act.put, List.setIfInBounds_toArray, List.set_cons_zero, List.set_cons_succ]))
    first | (refine WE_take 9 (v := undef) rfl (by kernel_rfl) (fun _ _ _ h => h) (Or.inr ⟨by rfl, rfl⟩) (by assumption) ?_; (try simp only [Act.put, List.setIfInBounds_toArray, List.set_cons_zero, List.set_cons_succ])) | (refine WE_take 9 (v := ?_) rfl (by kernel_rfl) (fun _ _ _ h => h) (Or.inl ⟨by rfl, ?_⟩) (by assumption) ?_; rotate_left; (· intro w9 hSw; (try dsimp only at hSw); go_simp; try with_reducible rfl); (try simp only [Act.put, List.setIfInBounds_toArray, List.set_cons_zero, List.set_cons_succ]))
    first | (refine WE_take 10 (v := undef) rfl (by kernel_rfl) (fun _ _ _ h => h) (Or.inr ⟨by rfl, rfl⟩) (by assumption) ?_; (try simp only [Act.put, List.setIfInBounds_toArray, List.set_cons_zero, List.set_cons_succ])) | (refine WE_take 10 (v := ?_) rfl (by kernel_rfl) (fun _ _ _ h => h) (Or.inl ⟨by rfl, ?_⟩) (by assumption) ?_; rotate_left; (· intro w9 hSw; (try dsimp only at hSw); go_simp; try with_reducible rfl); (try simp only [Act.put, List.setIfInBounds_toArray, List.set_cons_zero, List.set_cons_succ]))
    first | (refine WE_take 11 (v := undef) rfl (by kernel_rfl) (fun _ _ _ h => h) (Or.inr ⟨by rfl, rfl⟩) (by assumption) ?_; (try simp only [Act.put, List.setIfInBounds_toArray, List.set_cons_zero, List.set_cons_succ])) | (refine WE_take 11 (v := ?_) rfl (by kernel_rfl) (fun _ _ _ h => h) (Or.inl ⟨by rfl, ?_⟩) (by assumption) ?_; rotate_left; (· intro w9 hSw; (try dsimp only at hSw); go_simp; try with_reducible rfl); (try simp only [Act.put, List.setIfInBounds_toArray, List.set_cons_zero, List.set_cons_succ]))
    first | (refine WE_take 12 (v := undef) rfl (by kernel_rfl) (fun _ _ _ h => h) (Or.inr ⟨by rfl, rfl⟩) (by assumption) ?_; (try simp only [Act.put, List.setIfInBounds_toArray, List.set_cons_zero, List.set_cons_succ])) | (refine WE_take 12 (v := ?_) rfl (by kernel_rfl) (fun _ _ _ h => h) (Or.inl ⟨by rfl, ?_⟩) (by assumption) ?_; rotate_left; (· intro w9 hSw; (try dsimp only at hSw); go_simp; try with_reducible rfl); (try simp only [Act.put, List.setIfInBounds_toArray, List.set_cons_zero, List.set_cons_succ]))
    first | (refine WE_take 13 (v := undef) rfl (by kernel_rfl) (fun _ _ _ h => h) (Or.inr ⟨by rfl, rfl⟩) (by assumption) ?_; (try simp only [Act.put, List.setIfInBounds_toArray, List.set_cons_zero, List.set_cons_succ])) | (refine WE_take 13 (v := ?_) rfl (by kernel_rfl) (fun _ _ _ h => h) (Or.inl ⟨by rfl, ?_⟩) (by assumption) ?_; rotate_left; (· intro w9 hSw; (try dsimp only at hSw); go_simp; try with_reducible rfl); (try simp only [Act.put, List.setIfInBounds_toArray, List.set_cons_zero, List.set_cons_succ]))
    first | (refine WE_take 14 (v := undef) rfl (by kernel_rfl) (fun _ _ _ h => h) (Or.inr ⟨by rfl, rfl⟩) (by assumption) ?_; (try simp only [Act.put, List.setIfInBounds_toArray, List.set_cons_zero, List.set_cons_succ])) | (refine WE_take 14 (v := ?_) rfl (by kernel_rfl) (fun _ _ _ h => h) (Or.inl ⟨by rfl, ?_⟩) (by assumption) ?_; rotate_left; (· intro w9 hSw; (try dsimp only at hSw); go_simp; try with_reducible rfl); (try simp only [Act.put, List.setIfInBounds_toArray, List.set_cons_zero, List.set_cons_succ]))
    first | (refine WE_take 15 (v := undef) rfl (by kernel_rfl) (fun _ _ _ h => h) (Or.inr ⟨by rfl, rfl⟩) (by assumption) ?_; (try simp only [Act.put, List.setIfInBounds_toArray, List.set_cons_zero, List.set_cons_succ])) | (refine WE_take 15 (v := ?_) rfl (by kernel_rfl) (fun _ _ _ h => h) (Or.inl ⟨by rfl, ?_⟩) (by assumption) ?_; rotate_left; (· intro w9 hSw; (try dsimp only at hSw); go_simp; try with_reducible rfl); (try simp only [Act.put, List.setIfInBounds_toArray, List.set_cons_zero, List.set_cons_succ]))
    first | (refine WE_take 16 (v := undef) rfl (by kernel_rfl) (fun _ _ _ h => h) (Or.inr ⟨by rfl, rfl⟩) (by assumption) ?_; (try simp only [Act.put, List.setIfInBounds_toArray, List.set_cons_zero, List.set_cons_succ])) | (refine WE_take 16 (v := ?_) rfl (by kernel_rfl) (fun _ _ _ h => h) (Or.inl ⟨by rfl, ?_⟩) (by assumption) ?_; rotate_left; (· intro w9 hSw; (try dsimp only at hSw); go_simp; try with_reducible rfl); (try simp only [Act.put, List.setIfInBounds_toArray, List.set_cons_zero, List.set_cons_succ]))
    first | (refine WE_take 17 (v := undef) rfl (by kernel_rfl) (fun _ _ _ h => h) (Or.inr ⟨by rfl, rfl⟩) (by assumption) ?_; (try simp only [Act.put, List.setIfInBounds_toArray, List.set_cons_zero, List.set_cons_succ])) | (refine WE_take 17 (v := ?_) rfl (by kernel_rfl) (fun _ _ _ h => h) (Or.inl ⟨by rfl, ?_⟩) (by assumption) ?_; rotate_left; (· intro w9 hSw; (try dsimp only at hSw); go_simp; try with_reducible rfl); (try simp only [Act.put, List.setIfInBounds_toArray, List.set_cons_zero, List.set_cons_succ]))
    first | (refine WE_take 18 (v := undef) rfl (by kernel_rfl) (fun _ _ _ h => h) (Or.inr ⟨by rfl, rfl⟩) (by assumption) ?_; (try simp only [Act.put, List.setIfInBounds_toArray, List.set_cons_zero, List.set_cons_succ])) | (refine WE_take 18 (v := ?_) rfl (by kernel_rfl) (fun _ _ _ h => h) (Or.inl ⟨by rfl, ?_⟩) (by assumption) ?_; rotate_left; (· intro w9 hSw; (try dsimp only at hSw); go_simp; try with_reducible rfl); (try simp only [Act.put, List.setIfInBounds_toArray, List.set_cons_zero, List.set_cons_succ]))
    refine WE_step 19 rfl (by kernel_rfl) (fun K hK => ?_)
    go_simp
    skip
    (try go_wp2_with fail)
    refine hK.out _ _ ?_ (fun hHeld => ?_)
    · (repeat' first | (with_reducible assumption) | (with_reducible exact SX0.init _) | (with_reducible exact SX0.refl _) | (with_reducible refine SX0.alloc ?_ _) | (with_reducible refine SX0.call ?_ (by assumption)) | (with_reducible refine SX0.set ?_ _ _ _ ?_) | (with_reducible refine SX0.drew ?_) | (simp; done) | omega | (simp; omega))
    clear hK K
    try simp only [Act.put, List.setIfInBounds_toArray, List.set_cons_zero, List.set_cons_succ]
    first | (refine WE_take 20 (v := undef) rfl (by kernel_rfl) (fun _ _ _ h => h) (Or.inr ⟨by rfl, rfl⟩) (by assumption) ?_; (try simp only [Act.put, List.setIfInBounds_toArray, List.set_cons_zero, List.set_cons_succ])) | (refine WE_take 20 (v := ?_) rfl (by kernel_rfl) (fun _ _ _ h => h) (Or.inl ⟨by rfl, ?_⟩) (by assumption) ?_; rotate_left; (· intro w9 hSw; (try dsimp only at hSw); go_simp; try with_reducible rfl); (try simp only [Act.put, List.setIfInBounds_toArray, List.set_cons_zero, List.set_cons_succ]))
    refine WE_last rfl (by kernel_rfl) (fun K hK => ?_)
    go_simp
    refine hK.out _ _ ?_
    clear hK K
    go_wp2_with fail
    go_ret
    exact ⟨⟨false, rfl, ⟨fun h => (by cases h), fun h => absurd h HNO.out⟩⟩, (keptTrans hkwq hHeld.1).toBelow⟩
  have z1 : decide ((m2 : Int) ≤ (i : Int)) = false := decide_eq_false (by omega)
  have z2 : decide (m2 ≤ i) = false := decide_eq_false (by omega)
  have hi2 : (i : Int) < (m2 : Int) := by omega
  obtain ⟨b7, o7, rfl, hl7, hc7⟩ := HF'.out.2 (by omega)
  obtain ⟨Bi, mi, di, hcell7, hpi', hmi⟩ := hc7 i him
  have r7 := (hkwq.cell b7 _ hl7 (by simp)).trans hcell7
  have hl7q : b7 < wq.heap.size := Nat.lt_of_lt_of_le hl7 hkwq.size
  have HPI' := Lib.hid hpi'
  obtain ⟨v, hv⟩ : ∃ v, decide (y ∈ gil fs' i) = v := ⟨_, rfl⟩
  have HV := Lib.hid hv
  clear hc7 hcell7 hpi' hv
  go_upto_region 12 with fail
  refine wp_region_E 21 (fun w' => SX0 wq w') (by kernel_rfl) (by (repeat' first | (with_reducible assumption) | (with_reducible exact SX0.init _) | (with_reducible exact SX0.refl _) | (with_reducible refine SX0.alloc ?_ _) | (with_reducible refine SX0.call ?_ (by assumption)) | (with_reducible refine SX0.set ?_ _ _ _ ?_) | (with_reducible refine SX0.drew ?_) | (simp; done) | omega | (simp; omega))) (fun hHeld => ?_)
  refine WE_take 0 (v := ?_) rfl (by kernel_rfl) (fun _ _ _ h => h) (Or.inl ⟨by rfl, ?_⟩) (by assumption) ?_; rotate_left; (· intro w9 hSw; (try dsimp only at hSw); go_simp; try with_reducible rfl); (try simp only [Act.put, List.setIfInBounds_toArray, List.set_cons_zero, List.set_cons_succ])
  refine WE_take 1 (v := ?_) rfl (by kernel_rfl) (fun _ _ _ h => h) (Or.inl ⟨by rfl, ?_⟩) (by assumption) ?_; rotate_left; (· intro w9 hSw; (try dsimp only at hSw); go_simp; try with_reducible rfl); (try simp only [Act.put, List.setIfInBounds_toArray, List.set_cons_zero, List.set_cons_succ])
  refine WE_take 2 (v := ?_) rfl (by kernel_rfl) (fun _ _ _ h => h) (Or.inl ⟨by rfl, ?_⟩) (by assumption) ?_; rotate_left; (· intro w9 hSw; (try dsimp only at hSw); go_simp; try with_reducible rfl); (try simp only [Act.put, List.setIfInBounds_toArray, List.set_cons_zero, List.set_cons_succ])
  refine WE_take 3 (v := ?_) rfl (by kernel_rfl) (fun _ _ _ h => h) (Or.inl ⟨by rfl, ?_⟩) (by assumption) ?_; rotate_left; (· intro w9 hSw; (try dsimp only at hSw); go_simp; try with_reducible rfl); (try simp only [Act.put, List.setIfInBounds_toArray, List.set_cons_zero, List.set_cons_succ])
  refine WE_take 4 (v := ?_) rfl (by kernel_rfl) (fun _ _ _ h => h) (Or.inl ⟨by rfl, ?_⟩) (by assumption) ?_; rotate_left; (· intro w9 hSw; (try dsimp only at hSw); go_simp; try with_reducible rfl); (try simp only [Act.put, List.setIfInBounds_toArray, List.set_cons_zero, List.set_cons_succ])
  refine WE_take 5 (v := ?_) rfl (by kernel_rfl) (fun _ _ _ h => h) (Or.inl ⟨by rfl, ?_⟩) (by assumption) ?_; rotate_left; (· intro w9 hSw; (try dsimp only at hSw); go_simp; try with_reducible rfl); (try simp only [Act.put, List.setIfInBounds_toArray, List.set_cons_zero, List.set_cons_succ])
  first | (refine WE_take 6 (v := undef) rfl (by kernel_rfl) (fun _ _ _ h => h) (Or.inr ⟨by rfl, rfl⟩) (by assumption) ?_; (try simp only [Act.put, List.setIfInBounds_toArray, List.set_cons_zero, List.set_cons_succ])) | (refine WE_take 6 (v := ?_) rfl (by kernel_rfl) (fun _ _ _ h => h) (Or.inl ⟨by rfl, ?_⟩) (by assumption) ?_; rotate_left; (· intro w9 hSw; (try dsimp only at hSw); go_simp; try with_reducible rfl); (try simp only [Act.put, List.setIfInBounds_toArray, List.set_cons_zero, List.set_cons_succ]))
  first | (refine WE_take 7 (v := undef) rfl (by kernel_rfl) (fun _ _ _ h => h) (Or.inr ⟨by rfl, rfl⟩) (by assumption) ?_; (try simp only [Act.put, List.setIfInBounds_toArray, List.set_cons_zero, List.set_cons_succ])) | (refine WE_take 7 (v := ?_) rfl (by kernel_rfl) (fun _ _ _ h => h) (Or.inl ⟨by rfl, ?_⟩) (by assumption) ?_; rotate_left; (· intro w9 hSw; (try dsimp only at hSw); go_simp; try with_reducible rfl); (try simp only [Act.put, List.setIfInBounds_toArray, List.set_cons_zero, List.set_cons_succ]))
  first | (refine WE_take 8 (v := undef) rfl (by kernel_rfl) (fun _ _ _ h => h) (Or.inr ⟨by rfl, rfl⟩) (by assumption) ?_; (try simp only [Act.put, List.setIfInBounds_toArray, List.set_cons_zero, List.set_cons_succ])) | (refine WE_take 8 (v := ?_) rfl (by kernel_rfl) (fun _ _ _ h => h) (Or.inl ⟨by rfl, ?_⟩) (by assumption) ?_; rotate_left; (· intro w9 hSw; (try dsimp only at hSw); go_simp; try with_reducible rfl); (try simp only [Act.put, List.setIfInBounds_toArray, List.set_cons_zero, List.set_cons_succ]))
  first | (refine WE_take 9 (v := undef) rfl (by kernel_rfl) (fun _ _ _ h => h) (Or.inr ⟨by rfl, rfl⟩) (by assumption) ?_; (try simp only [Act.put, List.setIfInBounds_toArray, List.set_cons_zero, List.set_cons_succ])) | (refine WE_take 9 (v := ?_) rfl (by kernel_rfl) (fun _ _ _ h => h) (Or.inl ⟨by rfl, ?_⟩) (by assumption) ?_; rotate_left; (· intro w9 hSw; (try dsimp only at hSw); go_simp; try with_reducible rfl); (try simp only [Act.put, List.setIfInBounds_toArray, List.set_cons_zero, List.set_cons_succ]))
  first | (refine WE_take 10 (v := undef) rfl (by kernel_rfl) (fun _ _ _ h => h) (Or.inr ⟨by rfl, rfl⟩) (by assumption) ?_; (try simp only [Act.put, List.setIfInBounds_toArray, List.set_cons_zero, List.set_cons_succ])) | (refine WE_take 10 (v := ?_) rfl (by kernel_rfl) (fun _ _ _ h => h) (Or.inl ⟨by rfl, ?_⟩) (by assumption) ?_; rotate_left; (· intro w9 hSw; (try dsimp only at hSw); go_simp; try with_reducible rfl); (try simp only [Act.put, List.setIfInBounds_toArray, List.set_cons_zero, List.set_cons_succ]))
  first | (refine WE_take 11 (v := undef) rfl (by kernel_rfl) (fun _ _ _ h => h) (Or.inr ⟨by rfl, rfl⟩) (by assumption) ?_; (try simp only [Act.put, List.setIfInBounds_toArray, List.set_cons_zero, List.set_cons_succ])) | (refine WE_take 11 (v := ?_) rfl (by kernel_rfl) (fun _ _ _ h => h) (Or.inl ⟨by rfl, ?_⟩) (by assumption) ?_; rotate_left; (· intro w9 hSw; (try dsimp only at hSw); go_simp; try with_reducible rfl); (try simp only [Act.put, List.setIfInBounds_toArray, List.set_cons_zero, List.set_cons_succ]))
  first | (refine WE_take 12 (v := undef) rfl (by kernel_rfl) (fun _ _ _ h => h) (Or.inr ⟨by rfl, rfl⟩) (by assumption) ?_; (try simp only [Act.put, List.setIfInBounds_toArray, List.set_cons_zero, List.set_cons_succ])) | (refine WE_take 12 (v := ?_) rfl (by kernel_rfl) (fun _ _ _ h => h) (Or.inl ⟨by rfl, ?_⟩) (by assumption) ?_; rotate_left; (· intro w9 hSw; (try dsimp only at hSw); go_simp; try with_reducible rfl); (try simp only [Act.put, List.setIfInBounds_toArray, List.set_cons_zero, List.set_cons_succ]))
  first | (refine WE_take 13 (v := undef) rfl (by kernel_rfl) (fun _ _ _ h => h) (Or.inr ⟨by rfl, rfl⟩) (by assumption) ?_; (try simp only [Act.put, List.setIfInBounds_toArray, List.set_cons_zero, List.set_cons_succ])) | (refine WE_take 13 (v := ?_) rfl (by kernel_rfl) (fun _ _ _ h => h) (Or.inl ⟨by rfl, ?_⟩) (by assumption) ?_; rotate_left; (· intro w9 hSw; (try dsimp only at hSw); go_simp; try with_reducible rfl); (try simp only [Act.put, List.setIfInBounds_toArray, List.set_cons_zero, List.set_cons_succ]))
  first | (refine WE_take 14 (v := undef) rfl (by kernel_rfl) (fun _ _ _ h => h) (Or.inr ⟨by rfl, rfl⟩) (by assumption) ?_; (try simp only [Act.put, List.setIfInBounds_toArray, List.set_cons_zero, List.set_cons_succ])) | (refine WE_take 14 (v := ?_) rfl (by kernel_rfl) (fun _ _ _ h => h) (Or.inl ⟨by rfl, ?_⟩) (by assumption) ?_; rotate_left; (· intro w9 hSw; (try dsimp only at hSw); go_simp; try with_reducible rfl); (try simp only [Act.put, List.setIfInBounds_toArray, List.set_cons_zero, List.set_cons_succ]))
  first | (refine WE_take 15 (v := undef) rfl (by kernel_rfl) (fun _ _ _ h => h) (Or.inr ⟨by rfl, rfl⟩) (by assumption) ?_; (try simp only [Act.put, List.setIfInBounds_toArray, List.set_cons_zero, List.set_cons_succ])) | (refine WE_take 15 (v := ?_) rfl (by kernel_rfl) (fun _ _ _ h => h) (Or.inl ⟨by rfl, ?_⟩) (by assumption) ?_; rotate_left; (· intro w9 hSw; (try dsimp only at hSw); go_simp; try with_reducible rfl); (try simp only [Act.put, List.setIfInBounds_toArray, List.set_cons_zero, List.set_cons_succ]))
  first | (refine WE_take 16 (v := undef) rfl (by kernel_rfl) (fun _ _ _ h => h) (Or.inr ⟨by rfl, rfl⟩) (by assumption) ?_; (try simp only [Act.put, List.setIfInBounds_toArray, List.set_cons_zero, List.set_cons_succ])) | (refine WE_take 16 (v := ?_) rfl (by kernel_rfl) (fun _ _ _ h => h) (Or.inl ⟨by rfl, ?_⟩) (by assumption) ?_; rotate_left; (· intro w9 hSw; (try dsimp only at hSw); go_simp; try with_reducible rfl); (try simp only [Act.put, List.setIfInBounds_toArray, List.set_cons_zero, List.set_cons_succ]))
  first | (refine WE_take 17 (v := undef) rfl (by kernel_rfl) (fun _ _ _ h => h) (Or.inr ⟨by rfl, rfl⟩) (by assumption) ?_; (try simp only [Act.put, List.setIfInBounds_toArray, List.set_cons_zero, List.set_cons_succ])) | (refine WE_take 17 (v := ?_) rfl (by kernel_rfl) (fun _ _ _ h => h) (Or.inl ⟨by rfl, ?_⟩) (by assumption) ?_; rotate_left; (· intro w9 hSw; (try dsimp only at hSw); go_simp; try with_reducible rfl); (try simp only [Act.put, List.setIfInBounds_toArray, List.set_cons_zero, List.set_cons_succ]))
  first | (refine WE_take 18 (v := undef) rfl (by kernel_rfl) (fun _ _ _ h => h) (Or.inr ⟨by rfl, rfl⟩) (by assumption) ?_; (try simp only [Act.put, List.setIfInBounds_toArray, List.set_cons_zero, List.set_cons_succ])) | (refine WE_take 18 (v := ?_) rfl (by kernel_rfl) (fun _ _ _ h => h) (Or.inl ⟨by rfl, ?_⟩) (by assumption) ?_; rotate_left; (· intro w9 hSw; (try dsimp only at hSw); go_simp; try with_reducible rfl); (try simp only [Act.put, List.setIfInBounds_toArray, List.set_cons_zero, List.set_cons_succ]))
  refine WE_step 19 rfl (by kernel_rfl) (fun K hK => ?_)
  go_simp
  (go_at_call 78; refine (rhas_any Bi mi di (gil fs' i) y _ (HPI'.out.later (keptTrans hkwq hHeld.1).toBelow) hmi).mono ?_; rw [HV.out]; rintro e w8 ⟨rfl, rfl⟩)
  (try go_wp2_with fail)
  refine hK.out _ _ ?_ (fun hHeld => ?_)
  · (repeat' first | (with_reducible assumption) | (with_reducible exact SX0.init _) | (with_reducible exact SX0.refl _) | (with_reducible refine SX0.alloc ?_ _) | (with_reducible refine SX0.call ?_ (by assumption)) | (with_reducible refine SX0.set ?_ _ _ _ ?_) | (with_reducible refine SX0.drew ?_) | (simp; done) | omega | (simp; omega))
  clear hK K
  try simp only [Act.put, List.setIfInBounds_toArray, List.set_cons_zero, List.set_cons_succ]
  first | (refine WE_take 20 (v := undef) rfl (by kernel_rfl) (fun _ _ _ h => h) (Or.inr ⟨by rfl, rfl⟩) (by assumption) ?_; (try simp only [Act.put, List.setIfInBounds_toArray, List.set_cons_zero, List.set_cons_succ])) | (refine WE_take 20 (v := ?_) rfl (by kernel_rfl) (fun _ _ _ h => h) (Or.inl ⟨by rfl, ?_⟩) (by assumption) ?_; rotate_left; (· intro w9 hSw; (try dsimp only at hSw); go_simp; try with_reducible rfl); (try simp only [Act.put, List.setIfInBounds_toArray, List.set_cons_zero, List.set_cons_succ]))
  refine WE_last rfl (by kernel_rfl) (fun K hK => ?_)
  go_simp
  refine hK.out _ _ ?_
  clear hK K
  have hk8 : Kept [] wz wq.drew := hkq.drew
  cases v with
  | true =>
    have HI2 : Hid (∀ z, z < q + 1 → i < m2 ∧ gi (gil fs i) z ∈ gil fs' i) := Lib.hid (fun z hz => by
      rcases Nat.lt_or_ge z q with h9 | h9
      · exact hin.out z h9
      · obtain rfl : z = q := by omega
        rw [HY.out]
        exact ⟨him, of_decide_eq_true HV.out⟩)
    go_wp2_with fail
    exact ⟨⟨q + 1, by omega, by go_num, hk8, HI2⟩, by simp [intOf]; omega⟩
  | false =>
    have HNO := Lib.hid (HNOT.out (fun h => of_decide_eq_false HV.out h.2))
    go_wp2_with fail
    go_ret
    exact ⟨⟨false, rfl, ⟨fun h => (by cases h), fun h => absurd h HNO.out⟩⟩, (keptTrans hkwz hk8).toBelow⟩
end Go.Proofs.Ytffkikhknabddaa
