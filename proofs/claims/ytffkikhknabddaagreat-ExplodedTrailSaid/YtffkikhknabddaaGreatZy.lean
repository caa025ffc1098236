/- A pack of texts: Xp Xq. -/
import Derived.Test.YtffkikhknabddaaGreatXm
/- The contracts of the law's small, of its closed example and of what it asks of that. (Printed by genXp.py.) -/
namespace Go.Df
open Go.RowKit
theorem ints_blk {w : World} {b : Nat} {xs : List Int} (h : Blk w b (xs.map (Value.int .i64))) : Ints w (some ⟨b, 0, none⟩) xs.length xs := by
  refine ⟨rfl, fun _ => ⟨b, 0, rfl, h.1, fun i hi => ?_⟩⟩
  rw [Nat.zero_add, h.2.1 i, List.getElem?_map, List.getElem?_eq_getElem hi, gi_lt hi]
  rfl
namespace If
def oneN : List Sp.Nd := [⟨0, 1, -1⟩, ⟨0, 2, 0⟩, ⟨0, 3, -1⟩, ⟨0, 4, -1⟩]
def oneE : List Sp.Ed := [⟨0, 1, 1, -1⟩, ⟨1, 2, 1, -1⟩]
def oneL : List (List Pr) := [[⟨0, 0⟩, ⟨0, 1⟩], [⟨0, 0⟩, ⟨1, 1⟩]]
def oneS : List Sd := [⟨2, 2⟩]
theorem one_al : alErr ⟨oneN, oneE, 0, 3, oneL, oneS⟩ [0, 1] = 0 := by decide
theorem one_fs : alongF ⟨oneN, oneE, 0, 3, oneL, oneS⟩ [0, 1] = [1, 2] := by decide
theorem one_t1 : trErr ⟨oneN, oneE, 0, 3, oneL, oneS⟩ [0, 1] [0, 1, 1] = 0 := by decide
theorem one_t2 : trErr ⟨oneN, oneE, 0, 3, oneL, oneS⟩ [0, 1] [0, 0, 2] = 0 := by decide
theorem one_t3 : trErr ⟨oneN, oneE, 0, 3, oneL, oneS⟩ [0] [0, 2] = 1 := by decide
end If
end Go.Df
namespace Go.Proofs.YtffkikhknabddaaGreat
open Go.RowKit Go.Df Go.Df.If
attribute [local go_sem ↓] Go.wp_at_zero Go.wp_at_succ

set_option maxRecDepth 100000 in
set_option maxHeartbeats 4000000 in
theorem small31_any (A1 A2 A3 A4 : Option Addr) (n1 c1 n2 c2 n3 c3 n4 c4 : Nat) (mn F : Int) (ls : List (List Pr)) (w : World) (hF : Flw w A3 n3 ls) :
    Calls Tryz.prog 4 #[.agg #[.slice A1 n1 c1, .slice A2 n2 c2, .int .i64 mn, .int .i64 F, .slice A3 n3 c3, .slice A4 n4 c4]] w fun e w' => (∃ b, e = .returned (.bool b) ∧ (b = true → n1 ≤ 40 ∧ n2 ≤ 80 ∧ F ≤ 8 ∧ n3 ≤ 80 ∧ n4 ≤ 20)) ∧ Below w.heap.size w w' := by
  have HF := Lib.hid hF
  clear hF
  by_cases t1 : 40 < n1
  · have d1 : decide ((40 : Int) < n1) = true := by simp; omega
    clear t1
    go_enter Tryz.func4, Tryz.ntmps4
    go_upto_region 1 with fail
    refine wp_named (fun W => ∃ b0, w.heap.size = b0 ∧ Blk W b0 [.slice A1 n1 c1, .slice A2 n2 c2, .int .i64 mn, .int .i64 F, .slice A3 n3 c3, .slice A4 n4 c4] ∧ Below w.heap.size w W) ⟨_, rfl, ?_, ?_⟩ ?_
    · exact Blk.new _ _ _ _ (by first | rfl | simp)
    · go_grown
    rintro W ⟨b0, e0, B0, hB⟩
    rw [e0]
    have G0 : w.heap.size ≤ b0 := by omega
    clear e0
    have ⟨L0, C0, F0⟩ := B0
    go_wp2_with fail
    go_ret
    exact ⟨⟨false, rfl, fun h => by cases h⟩, hB⟩
  have d1 : decide ((40 : Int) < n1) = false := by simp; omega
  by_cases t2 : 80 < n2
  · have d2 : decide ((80 : Int) < n2) = true := by simp; omega
    clear t1 t2
    go_enter Tryz.func4, Tryz.ntmps4
    go_upto_region 1 with fail
    refine wp_named (fun W => ∃ b0, w.heap.size = b0 ∧ Blk W b0 [.slice A1 n1 c1, .slice A2 n2 c2, .int .i64 mn, .int .i64 F, .slice A3 n3 c3, .slice A4 n4 c4] ∧ Below w.heap.size w W) ⟨_, rfl, ?_, ?_⟩ ?_
    · exact Blk.new _ _ _ _ (by first | rfl | simp)
    · go_grown
    rintro W ⟨b0, e0, B0, hB⟩
    rw [e0]
    have G0 : w.heap.size ≤ b0 := by omega
    clear e0
    have ⟨L0, C0, F0⟩ := B0
    go_wp2_with fail
    go_ret
    exact ⟨⟨false, rfl, fun h => by cases h⟩, hB⟩
  have d2 : decide ((80 : Int) < n2) = false := by simp; omega
  by_cases t3 : 8 < F
  · have d3 : decide ((8 : Int) < F) = true := by simpa using t3
    clear t1 t2 t3
    go_enter Tryz.func4, Tryz.ntmps4
    go_upto_region 1 with fail
    refine wp_named (fun W => ∃ b0, w.heap.size = b0 ∧ Blk W b0 [.slice A1 n1 c1, .slice A2 n2 c2, .int .i64 mn, .int .i64 F, .slice A3 n3 c3, .slice A4 n4 c4] ∧ Below w.heap.size w W) ⟨_, rfl, ?_, ?_⟩ ?_
    · exact Blk.new _ _ _ _ (by first | rfl | simp)
    · go_grown
    rintro W ⟨b0, e0, B0, hB⟩
    rw [e0]
    have G0 : w.heap.size ≤ b0 := by omega
    clear e0
    have ⟨L0, C0, F0⟩ := B0
    go_wp2_with fail
    go_ret
    exact ⟨⟨false, rfl, fun h => by cases h⟩, hB⟩
  have d3 : decide ((8 : Int) < F) = false := by simpa using t3
  by_cases t4 : 80 < n3
  · have d4 : decide ((80 : Int) < n3) = true := by simp; omega
    clear t1 t2 t3 t4
    go_enter Tryz.func4, Tryz.ntmps4
    go_upto_region 1 with fail
    refine wp_named (fun W => ∃ b0, w.heap.size = b0 ∧ Blk W b0 [.slice A1 n1 c1, .slice A2 n2 c2, .int .i64 mn, .int .i64 F, .slice A3 n3 c3, .slice A4 n4 c4] ∧ Below w.heap.size w W) ⟨_, rfl, ?_, ?_⟩ ?_
    · exact Blk.new _ _ _ _ (by first | rfl | simp)
    · go_grown
    rintro W ⟨b0, e0, B0, hB⟩
    rw [e0]
    have G0 : w.heap.size ≤ b0 := by omega
    clear e0
    have ⟨L0, C0, F0⟩ := B0
    go_wp2_with fail
    go_ret
    exact ⟨⟨false, rfl, fun h => by cases h⟩, hB⟩
  have d4 : decide ((80 : Int) < n3) = false := by simp; omega
  by_cases t5 : 20 < n4
  · have d5 : decide ((20 : Int) < n4) = true := by simp; omega
    clear t1 t2 t3 t4 t5
    go_enter Tryz.func4, Tryz.ntmps4
    go_upto_region 1 with fail
    refine wp_named (fun W => ∃ b0, w.heap.size = b0 ∧ Blk W b0 [.slice A1 n1 c1, .slice A2 n2 c2, .int .i64 mn, .int .i64 F, .slice A3 n3 c3, .slice A4 n4 c4] ∧ Below w.heap.size w W) ⟨_, rfl, ?_, ?_⟩ ?_
    · exact Blk.new _ _ _ _ (by first | rfl | simp)
    · go_grown
    rintro W ⟨b0, e0, B0, hB⟩
    rw [e0]
    have G0 : w.heap.size ≤ b0 := by omega
    clear e0
    have ⟨L0, C0, F0⟩ := B0
    go_wp2_with fail
    go_ret
    exact ⟨⟨false, rfl, fun h => by cases h⟩, hB⟩
  have d5 : decide ((20 : Int) < n4) = false := by simp; omega
  have HOK : Hid (n1 ≤ 40 ∧ n2 ≤ 80 ∧ F ≤ 8 ∧ n3 ≤ 80 ∧ n4 ≤ 20) := by show _ ∧ _; omega
  have hn3 : n3 ≤ 80 := by omega
  clear t1 t2 t3 t4 t5
  go_enter Tryz.func4, Tryz.ntmps4
  go_upto_region 1 with fail
  refine wp_named (fun W => ∃ b0, w.heap.size = b0 ∧ Blk W b0 [.slice A1 n1 c1, .slice A2 n2 c2, .int .i64 mn, .int .i64 F, .slice A3 n3 c3, .slice A4 n4 c4] ∧ Below w.heap.size w W) ⟨_, rfl, ?_, ?_⟩ ?_
  · exact Blk.new _ _ _ _ (by first | rfl | simp)
  · go_grown
  rintro W ⟨b0, e0, B0, hB⟩
  rw [e0]
  have G0 : w.heap.size ≤ b0 := by omega
  clear e0
  have ⟨L0, C0, F0⟩ := B0
  go_wp2_with fail
  go_loopw [3] (fun s3 wr => ∃ i : Nat, i ≤ n3 ∧ s3 = .int .i64 i ∧ Kept [] W wr) (fun s3 _ => n3 - (intOf s3).toNat)
  case atStart => exact ⟨0, Nat.zero_le _, rfl, Kept.refl _ _⟩
  case round =>
  clear C0 F0
  obtain ⟨i, hi, rfl, hkr⟩ := hrel
  have ⟨L0r, C0r, F0r⟩ := hkr.blk (by simp) B0
  have hBr : Below w.heap.size w wr := hkr.below hB hB.size (by simp)
  by_cases hlt : i < n3
  · obtain ⟨q1, o1, rfl, hl1, hc1⟩ := (HF.out.later hBr).2 (by omega)
    obtain ⟨Ai, ni, ci, r1, -, -⟩ := hc1 i hlt
    have hi9 : (i : Int) < (n3 : Int) := by omega
    clear hc1
    by_cases t6 : 40 < ni
    · have d6 : decide ((40 : Int) < ni) = true := by simp; omega
      clear t6
      go_wp2_with fail
      go_ret
      exact ⟨⟨false, rfl, fun h => by cases h⟩, hBr⟩
    · have d6 : decide ((40 : Int) < ni) = false := by simp; omega
      clear t6
      go_wp2_with fail
      exact ⟨⟨i + 1, by omega, by go_num, hkr⟩, by simp [intOf]; omega⟩
  · obtain rfl : i = n3 := by omega
    go_wp2_with fail
    go_ret
    exact ⟨⟨true, rfl, fun _ => HOK.out⟩, hBr⟩


theorem prs2' {w : World} {b : Nat} {a c d e : Int} (h : Blk w b [.int .i64 a, .int .i64 c, .int .i64 d, .int .i64 e]) : Prs w (some ⟨b, 0, none⟩) 2 [⟨a, c⟩, ⟨d, e⟩] :=
  ⟨rfl, fun _ => ⟨b, 0, rfl, h.1, fun i hi => by
    match i, hi with
    | 0, _ => exact ⟨h.2.1 0, h.2.1 1⟩
    | 1, _ => exact ⟨h.2.1 2, h.2.1 3⟩⟩⟩
theorem post_named' {P : Program} {f : Func} {Q : Ending → World → Prop} {e : Exit} {a : Act} {w : World} (S : World → Prop) (h0 : S w) (h : ∀ X, S X → bodyPost P f Q e a X) : bodyPost P f Q e a w := h w h0

set_option maxRecDepth 100000 in
set_option maxHeartbeats 4000000 in
theorem one31_any (w : World) : Calls Tryz.prog 22 #[] w fun e w' => ∃ A1 A2 A3 A4, e = .returned (.agg #[.slice A1 4 4, .slice A2 2 2, .int .i64 0, .int .i64 3, .slice A3 2 2, .slice A4 1 1]) ∧ Gr w' A1 4 A2 2 oneN oneE ∧ Flw w' A3 2 oneL ∧ Sds w' A4 1 oneS ∧ Below w.heap.size w w' := by
  go_enter Tryz.func22, Tryz.ntmps22
  go_wp2_with fail
  refine post_named' (fun X => ∃ r0 bn be f0 f1 fl sb, w.heap.size = r0 ∧ w.heap.size + 1 = bn ∧ w.heap.size + 1 + 1 + 1 = be ∧ w.heap.size + 1 + 1 + 1 + 1 = f0 ∧ w.heap.size + 1 + 1 + 1 + 1 + 1 = f1 ∧ w.heap.size + 1 + 1 + 1 + 1 + 1 + 1 = fl ∧ w.heap.size + 1 + 1 + 1 + 1 + 1 + 1 + 1 = sb ∧
    Blk X r0 [.slice (some ⟨bn, 0, none⟩) 4 4, .slice (some ⟨be, 0, none⟩) 2 2, .int .i64 0, .int .i64 3, .slice (some ⟨fl, 0, none⟩) 2 2, .slice (some ⟨sb, 0, none⟩) 1 1] ∧
    Blk X bn [.int .i64 0, .int .i64 1, .int .i64 (-1), .int .i64 0, .int .i64 2, .int .i64 0, .int .i64 0, .int .i64 3, .int .i64 (-1), .int .i64 0, .int .i64 4, .int .i64 (-1)] ∧
    Blk X be [.int .i64 0, .int .i64 1, .int .i64 1, .int .i64 (-1), .int .i64 1, .int .i64 2, .int .i64 1, .int .i64 (-1)] ∧
    Blk X f0 [.int .i64 0, .int .i64 0, .int .i64 0, .int .i64 1] ∧ Blk X f1 [.int .i64 0, .int .i64 0, .int .i64 1, .int .i64 1] ∧ Blk X fl [.slice (some ⟨f0, 0, none⟩) 2 2, .slice (some ⟨f1, 0, none⟩) 2 2] ∧ Blk X sb [.int .i64 2, .int .i64 2] ∧ Below w.heap.size w X) ⟨_, _, _, _, _, _, _, rfl, rfl, rfl, rfl, rfl, rfl, rfl, ?_, ?_, ?_, ?_, ?_, ?_, ?_, ?_⟩ ?_
  iterate 7 (· repeat' first | ((with_reducible refine Blk.new _ _ _ _ ?_); simp; done) | (with_reducible refine Blk.alloc ?_ _))
  · go_grown
  rintro X ⟨r0, bn, be, f0, f1, fl, sb, e0, e1, e2, e3, e4, e5, e6, BR, BN, BE, BF0, BF1, BFL, BSB, hb⟩
  rw [e0] at hb ⊢
  have ⟨LX, CX, FX⟩ := BR
  refine bodyPost_ret (by simp [results, Tryz.results22, go_sem, CX]; try rfl) rfl ?_
  refine ⟨_, _, _, _, rfl, ⟨⟨rfl, fun _ => ⟨bn, 0, rfl, BN.1, fun i hi => ?_⟩⟩, ⟨rfl, fun _ => ⟨be, 0, rfl, BE.1, fun i hi => ?_⟩⟩, fun i hi => ?_, fun i hi => ?_⟩, ⟨rfl, fun _ => ⟨fl, 0, rfl, BFL.1, fun i hi => ?_⟩⟩, ⟨rfl, fun _ => ⟨sb, 0, rfl, BSB.1, fun i hi => ?_⟩⟩, hb⟩
  · match i, hi with
    | 0, _ => exact ⟨BN.2.1 0, BN.2.1 1, BN.2.1 2⟩
    | 1, _ => exact ⟨BN.2.1 3, BN.2.1 4, BN.2.1 5⟩
    | 2, _ => exact ⟨BN.2.1 6, BN.2.1 7, BN.2.1 8⟩
    | 3, _ => exact ⟨BN.2.1 9, BN.2.1 10, BN.2.1 11⟩
  · match i, hi with
    | 0, _ => exact ⟨BE.2.1 0, BE.2.1 1, BE.2.1 2, BE.2.1 3⟩
    | 1, _ => exact ⟨BE.2.1 4, BE.2.1 5, BE.2.1 6, BE.2.1 7⟩
  · match i, hi with
    | 0, _ => rfl
    | 1, _ => rfl
    | 2, _ => rfl
    | 3, _ => rfl
  · match i, hi with
    | 0, _ => exact ⟨rfl, rfl⟩
    | 1, _ => exact ⟨rfl, rfl⟩
  · match i, hi with
    | 0, _ => exact ⟨_, _, _, BFL.2.1 0, by omega, prs2' BF0⟩
    | 1, _ => exact ⟨_, _, _, BFL.2.1 1, by omega, prs2' BF1⟩
  · match i, hi with
    | 0, _ => exact ⟨BSB.2.1 0, BSB.2.1 1⟩

end Go.Proofs.YtffkikhknabddaaGreat
/- What the law asks of its closed example. (Printed by genXp.py.) -/
namespace Go.Proofs.YtffkikhknabddaaGreat
open Go.RowKit Go.Df Go.Df.If
attribute [local go_sem ↓] Go.wp_at_zero Go.wp_at_succ

theorem ints_two (w : World) (t : TypeId) (xs ys : List Int) : Ints ((w.alloc (.cells (xs.map (Value.int .i64)).toArray t)).alloc (.cells (ys.map (Value.int .i64)).toArray t)) (some ⟨w.heap.size, 0, none⟩) xs.length xs ∧ Ints ((w.alloc (.cells (xs.map (Value.int .i64)).toArray t)).alloc (.cells (ys.map (Value.int .i64)).toArray t)) (some ⟨w.heap.size + 1, 0, none⟩) ys.length ys :=
  ⟨ints_blk ((Blk.new _ _ _ _ rfl).alloc _), ints_blk (Blk.new _ _ _ _ (by simp))⟩

set_option maxRecDepth 100000 in
set_option maxHeartbeats 4000000 in
theorem knows31_any (w : World) : Calls Tryz.prog 9 #[] w fun e w' => e = .returned (.bool true) ∧ Below w.heap.size w w' := by
  go_enter Tryz.func9, Tryz.ntmps9
  go_wp2_with fail
  refine (one31_any _).mono ?_
  rintro e w1 ⟨A1, A2, A3, A4, rfl, hg1, hf1, hs1, hb1⟩
  have hk1 : Kept [] w w1 := (Kept.refl _ _).call hb1
  go_wp2_with fail
  refine (pAlong_any A1 A2 A3 A4 _ 4 4 2 2 2 2 1 1 2 2 0 3 oneN oneE oneL oneS [0, 1] _ (hg1.kept ((Kept.refl _ _).alloc _)) (hf1.later ((Kept.refl _ _).alloc _).toBelow) (hs1.later ((Kept.refl _ _).alloc _).toBelow) (ints_blk (xs := [0, 1]) (Blk.new _ _ _ _ rfl)) (by omega) (by omega) 0 one_al).mono ?_
  rintro e w2 ⟨h2, hb2⟩
  have hk2 : Kept [] w w2 := (hk1.alloc _).call hb2
  rcases h2 with ⟨h9, -⟩ | ⟨-, Q, m, c, rfl, hi2, hmc⟩
  · exact absurd rfl h9
  rw [one_fs] at hi2
  obtain rfl : m = 2 := hi2.1.symm
  obtain ⟨b, o, rfl, hl, hc⟩ := hi2.2 (by omega)
  have c0 : w2.cell? ⟨b, o, none⟩ = some (.int .i64 1) := hc 0 (by omega)
  have c1 : w2.cell? ⟨b, o + 1, none⟩ = some (.int .i64 2) := hc 1 (by omega)
  clear hi2 hc hg1 hf1 hs1 hb1 hb2
  go_wp2_with fail
  refine (one31_any _).mono ?_
  rintro e w3 ⟨A1, A2, A3, A4, rfl, hg1, hf1, hs1, hb1⟩
  have hk3 : Kept [] w w3 := hk2.call hb1
  clear c0 c1 hk1 hk2 hb1
  go_wp2_with fail
  refine (ptrail_any A1 A2 A3 A4 (some ⟨w3.heap.size, 0, none⟩) (some ⟨w3.heap.size + 1, 0, none⟩) 4 4 2 2 2 2 1 1 2 2 3 3 0 3 oneN oneE oneL oneS [0, 1] [0, 1, 1] _ (hg1.kept (((Kept.refl _ _).alloc _).alloc _)) (hf1.later (((Kept.refl _ _).alloc _).alloc _).toBelow) (hs1.later (((Kept.refl _ _).alloc _).alloc _).toBelow) (ints_two w3 3 [0, 1] [0, 1, 1]).1 (ints_two w3 3 [0, 1] [0, 1, 1]).2 (by omega) (by omega) (by omega) (by omega) 0 one_t1).mono ?_
  rintro e w4 ⟨rfl, hb4⟩
  have hk4 : Kept [] w w4 := ((hk3.alloc _).alloc _).call hb4
  clear hg1 hf1 hs1 hk3 hb4
  go_wp2_with fail
  refine (one31_any _).mono ?_
  rintro e w5 ⟨A1, A2, A3, A4, rfl, hg1, hf1, hs1, hb1⟩
  have hk5 : Kept [] w w5 := hk4.call hb1
  clear hk4 hb1
  go_wp2_with fail
  refine (ptrail_any A1 A2 A3 A4 (some ⟨w5.heap.size, 0, none⟩) (some ⟨w5.heap.size + 1, 0, none⟩) 4 4 2 2 2 2 1 1 2 2 3 3 0 3 oneN oneE oneL oneS [0, 1] [0, 0, 2] _ (hg1.kept (((Kept.refl _ _).alloc _).alloc _)) (hf1.later (((Kept.refl _ _).alloc _).alloc _).toBelow) (hs1.later (((Kept.refl _ _).alloc _).alloc _).toBelow) (ints_two w5 3 [0, 1] [0, 0, 2]).1 (ints_two w5 3 [0, 1] [0, 0, 2]).2 (by omega) (by omega) (by omega) (by omega) 0 one_t2).mono ?_
  rintro e w6 ⟨rfl, hb4⟩
  have hk6 : Kept [] w w6 := ((hk5.alloc _).alloc _).call hb4
  clear hg1 hf1 hs1 hk5 hb4
  go_wp2_with fail
  refine (one31_any _).mono ?_
  rintro e w7 ⟨A1, A2, A3, A4, rfl, hg1, hf1, hs1, hb1⟩
  have hk7 : Kept [] w w7 := hk6.call hb1
  clear hk6 hb1
  go_wp2_with fail
  refine (ptrail_any A1 A2 A3 A4 (some ⟨w7.heap.size, 0, none⟩) (some ⟨w7.heap.size + 1, 0, none⟩) 4 4 2 2 2 2 1 1 1 1 2 2 0 3 oneN oneE oneL oneS [0] [0, 2] _ (hg1.kept (((Kept.refl _ _).alloc _).alloc _)) (hf1.later (((Kept.refl _ _).alloc _).alloc _).toBelow) (hs1.later (((Kept.refl _ _).alloc _).alloc _).toBelow) (ints_two w7 3 [0] [0, 2]).1 (ints_two w7 3 [0] [0, 2]).2 (by omega) (by omega) (by omega) (by omega) 1 one_t3).mono ?_
  rintro e w8 ⟨rfl, hb4⟩
  have hk8 : Kept [] w w8 := ((hk7.alloc _).alloc _).call hb4
  go_wp2_with fail
  go_ret
  exact ⟨rfl, hk8.toBelow⟩
end Go.Proofs.YtffkikhknabddaaGreat
