/- The contract of Pop at a worklist that is not empty. -/
import Derived.Test.YthliphpcfnbmnaaM
import Derived.RegionTactic
namespace Go.Proofs.Ythliphpcfnbmnaa
open Go.RowKit Go.Df
attribute [local go_sem ↓] Go.wp_at_zero Go.wp_at_succ

theorem then_named {K : Act → World → Prop} {Q : Exit → Act → World → Prop} {e : Exit} {a : Act} {w : World} (S : World → Prop) (h0 : S w) (h : ∀ W, S W → Exit.then K Q e a W) : Exit.then K Q e a w := h w h0
set_option maxHeartbeats 400000 in
theorem pop_two (A1 A2 : Option Addr) (n1 c1 n2 c2 : Nat) (r l : List Int) (w : World) (hr : Ints w A1 n1 r) (hl : Ints w A2 n2 l) (h : Wl.chk r l = 0) (hp : 2 ≤ n2) (hcap : n2 ≤ c2) (hA : A1 = none → n1 = 0) :
    Calls Try.prog 10 #[.agg #[.slice A1 n1 c1, .slice A2 n2 c2]] w (GetPop w (gi l 0) r (l.drop 1) true) := by
  have hsz : n1 ≤ 8192 ∧ n2 ≤ 8192 := by
    have h1 := hl.1
    have h2 := hr.1
    rw [Wl.chk] at h
    split at h
    · omega
    · omega
  obtain ⟨s1, s2⟩ := hsz
  have HR := Lib.hid hr
  have HL := Lib.hid hl
  have Hl := Lib.hid hl.1
  have HA := Lib.hid hA
  have HZ := Lib.hid h
  obtain ⟨b, o, rfl, hlt, hc⟩ := hl.at_ (by omega)
  have HC := Lib.hid hc
  clear hr hl hA h hc
  go_enter Try.func10, Try.ntmps10
  go_upto_region 1 with fail
  refine wp_named (fun W => ∃ b0 b1, w.heap.size = b0 ∧ w.heap.size + 1 = b1 ∧ Blk W b0 [.slice A1 n1 c1, .slice (some ⟨b, o, none⟩) n2 c2] ∧ Blk W b1 [.slice none 0 0, .slice none 0 0] ∧ Below w.heap.size w W) ⟨_, _, rfl, rfl, ?_, ?_, ?_⟩ ?_
  · exact (Blk.new _ _ _ _ (by first | rfl | simp)).alloc _
  · exact Blk.new _ _ _ _ (by first | rfl | simp)
  · go_grown
  rintro W ⟨b0, b1, e0, e1, B0, B1, hB⟩
  rw [e1, e0]
  have G0 : w.heap.size ≤ b0 := by omega
  have n01 : b0 ≠ b1 := by omega
  have G1 : w.heap.size ≤ b1 := by omega
  have n10 : b1 ≠ b0 := by omega
  clear e0 e1
  have ⟨L0, C0, F0⟩ := B0
  have ⟨L1, C1, F1⟩ := B1
  go_wp2_with fail
  refine (check_any _ _ _ _ _ _ r l _ (HR.out.later hB) (HL.out.later hB)).mono ?_
  rintro e w1 ⟨rfl, hb1⟩
  rw [HZ.out]
  have hk1 : Kept [] W w1 := Kept.call (Kept.refl _ _) hb1
  have ⟨hc1, hf1, hg1⟩ := hk1.rules
  have z1 : ((n2 : Int) == 0) = false := by simp; omega
  go_wp2_with fail
  refine (clone_any _ _ _ r _ ((HR.out.later hB).kept hk1) (by omega) HA.out).mono ?_
  rintro e w2 ⟨v1, rfl, hown1, hb2⟩
  obtain ⟨A1', c1', hv1, hi1, hge1⟩ := SIn.of_own hown1
  have hk2 : Kept [] W w2 := Kept.call hk1 hb2
  have hlt2 : b < W.heap.size := by have := hB.size; omega
  have HC2 : Hid (∀ i, i < n2 - 1 → w2.cell? ⟨b, o + 1 + i, none⟩ = some (.int .i64 (gi (l.drop 1) i))) := fun i hi => by
    rw [hk2.cell b _ hlt2 (by simp), hB.cell (p := ⟨b, o + 1 + i, none⟩) hlt, show o + 1 + i = o + (1 + i) by omega, HC.out (1 + i) (by omega)]
    rw [gi_lt (by rw [Hl.out]; omega), gi_lt (by rw [List.length_drop, Hl.out]; omega), List.getElem_drop]
  have HI2 : Hid (Ints w2 (some ⟨b, o + 1, none⟩) (n2 - 1) (l.drop 1)) := ⟨by rw [List.length_drop, Hl.out], fun _ => ⟨b, o + 1, rfl, Nat.lt_of_lt_of_le hlt2 hk2.size, HC2.out⟩⟩
  clear hown1
  subst hv1
  go_wp2_with fail
  refine (clone_any _ _ _ (l.drop 1) _ HI2.out (by omega) (fun h => by cases h)).mono ?_
  rintro e w3 ⟨v2, rfl, hown2, hb3⟩
  obtain ⟨A2', c2', hv2, hi2, hge2⟩ := SIn.of_own hown2
  have hk3 : Kept [] W w3 := Kept.call hk2 hb3
  have ⟨L0', C0', F0'⟩ := hk3.blk (by simp) B0
  have ⟨L1', C1', F1'⟩ := hk3.blk (by simp) B1
  have hi1' := hi1.later hb3
  clear hown2
  subst hv2
  go_wp2_with fail
  have hB1 := hk3.blk (by simp) B1
  refine wp_named (fun V => Kept [b1] w3 V ∧ Blk V b1 [.slice A1' n1 c1', .slice A2' (n2 - 1) c2']) ⟨((Kept.refl [b1] w3).set b1 0 _ (.inl (by simp))).set b1 1 _ (.inl (by simp)), (Blk.set2 (hB1.n rfl))⟩ ?_
  rintro V ⟨hkV, BV1⟩
  have BV0 := hkV.blk (by simpa using n01) (hk3.blk (by simp) B0)
  have ⟨L0v, C0v, F0v⟩ := BV0
  have ⟨L1v, C1v, F1v⟩ := BV1
  have hcv : V.cell? ⟨b, o, none⟩ = some (.int .i64 (gi l 0)) := by
    rw [hkV.cell b o (Nat.lt_of_lt_of_le hlt2 hk3.size) (by simp; omega), hk3.cell b o hlt2 (by simp), hB.cell (p := ⟨b, o, none⟩) hlt]
    exact HC.out 0 (by omega)
  clear hc1 hf1 hg1 C0 F0 C1 F1 C0' F0' C1' F1'
  go_region
  refine then_named (fun Wf => Kept [b1] w3 Wf ∧ Blk Wf b1 [.slice A1' n1 c1', .slice A2' (n2 - 1) c2']) ⟨?_, ?_⟩ ?_
  · repeat' first | exact hkV | (with_reducible refine Kept.drew ?_) | (with_reducible refine Kept.set ?_ _ _ _ (Or.inl ?_)) | (simp; done)
  · first | exact Blk.set2 (BV1.n rfl) | exact Blk.drew (Blk.set2 (BV1.n rfl))
  rintro Wf ⟨hkf, ⟨L1f, C1f, F1f⟩⟩
  go_wp2_with fail
  refine bodyPost_ret (by simp [results, Try.results10, go_sem, C1f]; rfl) rfl ?_
  refine ⟨_, _, _, _, _, _, rfl, hi1'.keptX hkf (fun _ a ha => ?_), hi2.keptX hkf (fun _ a ha => ?_), ?_, fun a ha => ?_, fun a ha => ?_⟩
  · have := hge1 a ha
    have := hk1.size
    simp; omega
  · have := hge2 a ha
    have := hk2.size
    simp; omega
  · exact hkf.below (hk3.below hB hB.size (by simp)) (Nat.le_trans hB.size hk3.size) (by simpa using G1)
  · have t1 := hge1 a ha; have t2 := hB.size; have t3 := hkf.size; have t4 := hk1.size; have t5 := hb3.size; omega
  · have t1 := hge2 a ha; have t2 := hB.size; have t3 := hkf.size; have t4 := hk2.size; omega
end Go.Proofs.Ythliphpcfnbmnaa
