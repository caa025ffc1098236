/- The contracts of the reference's Solve and Same, and of small; the walk of the law IfdsSolve. -/
import Derived.Test.YtffkikhknabddaaGreatKt
import Derived.Test.YtffkikhknabddaaGreatKu
import Derived.Test.YtffkikhknabddaaGreatKf
import Derived.Test.YtffkikhknabddaaGreatKdz
import Derived.Test.YtffkikhknabddaaGreatZv
namespace Go.Df
open Go.RowKit
namespace If
open Classical in
theorem solF_tab {p : Pb} (ho : Ok p) {F : Nat} (hF : p.F.toNat = F) {T : Nat → Nat → Nat → Bool} (h : ∀ n a d, T n a d = true ↔ PE p a n d) (x : Nat) : tabL F T x F = solF p x := by
  unfold tabL solF
  rw [hF]
  congr 1
  refine List.filter_congr fun y _ => ?_
  have e : anyT F T x y = decide (∃ a, PE p a x y) := by
    rw [Bool.eq_iff_iff, decide_eq_true_iff]
    unfold anyT
    rw [List.any_eq_true]
    constructor
    · rintro ⟨a, _, ha⟩
      exact ⟨a, (h _ _ _).1 ha⟩
    · rintro ⟨a, ha⟩
      have h1 := (ha.rng ho).2.1
      exact ⟨a, List.mem_range.2 (by omega), (h _ _ _).2 ha⟩
  rw [e]
end If
end Go.Df
namespace Go.Proofs.YtffkikhknabddaaGreat
open Go.RowKit Go.Df Go.Df.If
attribute [local go_sem ↓] Go.wp_at_zero Go.wp_at_succ

set_option maxRecDepth 100000 in
set_option maxHeartbeats 4000000 in
theorem rsolve_bad {p : Pb} (A1 A2 A3 A4 : Option Addr) (n1 c1 n2 c2 n3 c3 n4 c4 : Nat) (w : World) (hG : Gr w A1 n1 A2 n2 p.ns p.es) (hF : Flw w A3 n3 p.fl) (hS : Sds w A4 n4 p.sd) (hn4 : n4 ≤ 9223372036854775807) (pe : Int) (hpe : pbErr p = pe) (h0 : pe ≠ 0) :
    Calls Tryz.prog 10 #[.agg #[.slice A1 n1 c1, .slice A2 n2 c2, .int .i64 p.mn, .int .i64 p.F, .slice A3 n3 c3, .slice A4 n4 c4]] w fun e w' => e = .returned (.tuple #[.agg #[.slice none 0 0, .slice none 0 0], .int .i64 pe]) ∧ Below w.heap.size w w' := by
  have HG := Lib.hid hG
  have HF := Lib.hid hF
  have HS := Lib.hid hS
  have HPE : Hid (pbErr ⟨p.ns, p.es, p.mn, p.F, p.fl, p.sd⟩ = pe) := hpe
  have h0' : (pe != 0) = true := by simpa using h0
  clear hG hF hS hpe h0
  go_enter Tryz.func10, Tryz.ntmps10
  go_upto_region 1 with fail
  refine wp_named (fun W => ∃ b0 b1, w.heap.size = b0 ∧ w.heap.size + 1 = b1 ∧ Blk W b0 [.slice A1 n1 c1, .slice A2 n2 c2, .int .i64 p.mn, .int .i64 p.F, .slice A3 n3 c3, .slice A4 n4 c4] ∧ Blk W b1 [.slice none 0 0, .slice none 0 0] ∧ Below w.heap.size w W) ⟨_, _, rfl, rfl, ?_, ?_, ?_⟩ ?_
  · exact (Blk.new _ _ _ _ (by first | rfl | simp)).alloc _
  · exact Blk.new _ _ _ _ (by first | rfl | simp)
  · go_grown
  rintro W ⟨b0, b1, e0, e1, B0, B1, hB⟩
  rw [e1, e0]
  have G0 : w.heap.size ≤ b0 := by omega
  have n01 : b0 ≠ b1 := by omega
  have G1 : w.heap.size ≤ b1 := by omega
  have n10 : b1 ≠ b0 := by omega
  clear e0 e1
  have ⟨L0, C0, F0⟩ := B0
  have ⟨L1, C1, F1⟩ := B1
  go_upto_region 2 with (go_at_call 23; refine (rifdsck_any A1 A2 A3 A4 n1 c1 n2 c2 n3 c3 n4 c4 p.mn p.F p.ns p.es p.fl p.sd _ (HG.out.nd.later hB) (HG.out.ed.later hB) (HF.out.later hB) (HS.out.later hB) hn4 HG.out.wn HG.out.we).mono ?_; rw [HPE.out]; rintro e w1 ⟨rfl, hb1⟩)
  have hk1 : Kept [] W w1 := (Kept.refl _ _).call hb1
  have B11 := hk1.blk (by simp) B1
  have ⟨L11, C11, F11⟩ := B11
  have hB1 := hk1.below hB hB.size (by simp)
  clear C1 F1
  go_wp2_with fail
  refine retNamedT (fun X => Blk X b1 [.slice none 0 0, .slice none 0 0] ∧ Kept [b1] w1 X) ⟨(B11.set 0 _).set 1 _, ((Kept.refl [b1] w1).set b1 0 _ (.inl (by simp))).set b1 1 _ (.inl (by simp))⟩ ?_
  rintro X ⟨BX, hkX⟩
  have ⟨LX, CX, FX⟩ := BX
  refine bodyPost_ret (by simp [results, Tryz.results10, go_sem, CX]; try rfl) rfl ?_
  exact ⟨rfl, hkX.below hB1 hB1.size (by simpa using G1)⟩

set_option maxRecDepth 100000 in
set_option maxHeartbeats 4000000 in
theorem rsolve_ok {p : Pb} (A1 A2 A3 A4 : Option Addr) (n1 c1 n2 c2 n3 c3 n4 c4 mN F : Nat) (w : World) (hG : Gr w A1 n1 A2 n2 p.ns p.es) (hP : PbW p n1 F mN A1 A2 A3 A4 n2 n3 n4 w) :
    Calls Tryz.prog 10 #[.agg #[.slice A1 n1 c1, .slice A2 n2 c2, .int .i64 mN, .int .i64 (F : Nat), .slice A3 n3 c3, .slice A4 n4 c4]] w fun e w' => ∃ B1 d1 B2 d2, e = .returned (.tuple #[.agg #[.slice B1 n1 d1, .slice B2 n1 d2], .int .i64 0]) ∧ Bls w' B1 n1 ((List.range n1).map (solR p)) ∧ IntsR w' B2 n1 ((List.range n1).map (solF p)) ∧ Below w.heap.size w w' := by
  have HG := Lib.hid hG
  have HP := Lib.hid hP
  have hn4 := hP.h4
  have hN8 := hP.N8
  have hF8 := hP.F8
  have hF1 := hP.F1
  have HPE : Hid (pbErr ⟨p.ns, p.es, mN, F, p.fl, p.sd⟩ = 0) := Lib.hid (by
    have h9 : pbErr ⟨p.ns, p.es, p.mn, p.F, p.fl, p.sd⟩ = 0 := pb_ok (p := p) hP.ok.sup (by have := hP.ok.f1; have := hP.ok.f2; omega) hP.ok.len (fun x hx => by
      have h1 := hP.ok.fl x hx
      have h2 := fl_end (l := gf p.fl x) hP.ok.f1 hP.ok.f2 h1.1 h1.2.1
      rw [h2, if_neg]
      rintro (h3 | h3)
      · have := h1.2.2.1; omega
      · exact h3 h1.2.2.2) hP.ok.sd
    rw [← hP.hm, ← hP.hF]
    exact h9)
  clear hG hP
  go_enter Tryz.func10, Tryz.ntmps10
  go_upto_region 1 with fail
  refine wp_named (fun W => ∃ b0 b1, w.heap.size = b0 ∧ w.heap.size + 1 = b1 ∧ Blk W b0 [.slice A1 n1 c1, .slice A2 n2 c2, .int .i64 mN, .int .i64 (F : Nat), .slice A3 n3 c3, .slice A4 n4 c4] ∧ Blk W b1 [.slice none 0 0, .slice none 0 0] ∧ Below w.heap.size w W) ⟨_, _, rfl, rfl, ?_, ?_, ?_⟩ ?_
  · exact (Blk.new _ _ _ _ (by first | rfl | simp)).alloc _
  · exact Blk.new _ _ _ _ (by first | rfl | simp)
  · go_grown
  rintro W ⟨b0, b1, e0, e1, B0, B1, hB⟩
  rw [e1, e0]
  have G0 : w.heap.size ≤ b0 := by omega
  have n01 : b0 ≠ b1 := by omega
  have G1 : w.heap.size ≤ b1 := by omega
  have n10 : b1 ≠ b0 := by omega
  clear e0 e1
  have ⟨L0, C0, F0⟩ := B0
  have ⟨L1, C1, F1⟩ := B1
  go_upto_region 2 with (go_at_call 23; refine (rifdsck_any A1 A2 A3 A4 n1 c1 n2 c2 n3 c3 n4 c4 mN F p.ns p.es p.fl p.sd _ (HG.out.nd.later hB) (HG.out.ed.later hB) (HP.out.fl.later hB) (HP.out.sd.later hB) (by omega) HG.out.wn HG.out.we).mono ?_; rw [HPE.out]; rintro e w1 ⟨rfl, hb1⟩)
  have hk1 : Kept [] W w1 := (Kept.refl _ _).call hb1
  have B01 := hk1.blk (by simp) B0
  have B11 := hk1.blk (by simp) B1
  have ⟨L01, C01, F01⟩ := B01
  have ⟨L11, C11, F11⟩ := B11
  have hB1 := hk1.below hB hB.size (by simp)
  clear C0 F0 C1 F1
  go_upto_region 4 with fail
  go_wp2_with (first
    | (go_at_call 25; refine (redges_any c1 c2 c3 c4 _ (HP.out.later hB1)).mono ?_; rintro e w2 ⟨X, bs, r, c, T, rfl, ht2, hpe2, hb2⟩; have T2 := Lib.hid ht2; have HT2 := Lib.hid hpe2; clear ht2 hpe2)
    | (go_at_call 24; refine (rsolof_any c _ T2.out hN8 hF1 hF8).mono ?_; rintro e w3 ⟨B1', d1, B2', d2, rfl, hr3, hb3⟩; have HR3 := Lib.hid hr3; have HK3 := Lib.hid (((Kept.refl [] w1).call hb2).call hb3); have ⟨L13, C13, F13⟩ := HK3.out.blk (by simp) B11; clear hr3))
  have B13 := HK3.out.blk (by simp) B11
  have hB3 : Below w.heap.size w w3 := HK3.out.below hB1 hB1.size (by simp)
  refine retNamedT (fun Y => Blk Y b1 [.slice B1' n1 d1, .slice B2' n1 d2] ∧ Kept [b1] w3 Y) ⟨(B13.set 0 _).set 1 _, ((Kept.refl [b1] w3).set b1 0 _ (.inl (by simp))).set b1 1 _ (.inl (by simp))⟩ ?_
  rintro Y ⟨BY, hkY⟩
  have ⟨LY, CY, FY⟩ := BY
  refine bodyPost_ret (by simp [results, Tryz.results10, go_sem, CY]; try rfl) rfl ?_
  have e1 : (List.range n1).map (fun x => T x 0 0) = (List.range n1).map (solR p) := List.map_congr_left fun x _ => solR_eq (HT2.out x 0 0)
  have e2 : (List.range n1).map (fun x => tabL F T x F) = (List.range n1).map (solF p) := List.map_congr_left fun x _ => solF_tab HP.out.ok HP.out.Fn HT2.out x
  rw [← e1, ← e2]
  obtain ⟨h1, h2⟩ := HR3.out Y [b1] hkY (fun x hx => by rw [List.mem_singleton] at hx; have h8 := hb2.size; omega)
  exact ⟨B1', d1, B2', d2, rfl, h1, h2, hkY.below hB3 hB3.size (by simpa using G1)⟩

end Go.Proofs.YtffkikhknabddaaGreat
