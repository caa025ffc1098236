/- The law EnvironAlong. -/
import Derived.Test.YtmjebjjhfoncfaaDoorEu
namespace Go.Proofs.YtmjebjjhfoncfaaDoor
open Go.RowKit Go.Df
attribute [local go_sem ↓] Go.wp_at_zero Go.wp_at_succ

set_option maxRecDepth 100000 in
set_option maxHeartbeats 4000000 in
theorem envAlong_any (A1 A2 A3 A4 A5 : Option Addr) (n1 c1 n2 c2 n3 c3 n4 c4 n5 c5 : Nat) (mn F : Int) (ns : List Sp.Nd) (es : List Sp.Ed) (ls : List (List Sp.Xp)) (sd : List Sp.Vs) (path : List Int) (w : World) (hg : Gr w A1 n1 A2 n2 ns es) (hf : Fls w A3 n3 ls) (hs : Vss w A4 n4 sd) (hp : Ints w A5 n5 path) (hc4 : n4 ≤ c4) (hgv : Gv w) :
    Calls Tryd.prog 3 #[.agg #[.slice A1 n1 c1, .slice A2 n2 c2, .int .i64 mn, .int .i64 F, .slice A3 n3 c3, .slice A4 n4 c4], .slice A5 n5 c5] w fun e w' => e = .returned (.bool true) ∧ Below w.heap.size w w' := by
  have HG := Lib.hid hg
  have HF := Lib.hid hf
  have HS := Lib.hid hs
  have HP := Lib.hid hp
  have HGV := Lib.hid hgv
  clear hg hf hs hp hgv
  go_enter Tryd.func3, Tryd.ntmps3
  go_upto_region 1 with fail
  refine wp_named (fun W => ∃ b0, w.heap.size = b0 ∧ Blk W b0 [.slice A1 n1 c1, .slice A2 n2 c2, .int .i64 mn, .int .i64 F, .slice A3 n3 c3, .slice A4 n4 c4] ∧ Below w.heap.size w W) ⟨_, rfl, ?_, ?_⟩ ?_
  · exact Blk.new _ _ _ _ (by first | rfl | simp)
  · go_grown
  rintro W ⟨b0, e0, B0, hB⟩
  rw [e0]
  have G0 : w.heap.size ≤ b0 := by omega
  clear e0
  have ⟨L0, C0, F0⟩ := B0
  have hkW : Kept [] w W := (Kept.refl _ _).call hB
  go_wp2_with fail
  refine (small_any A1 A2 A3 A4 n1 c1 n2 c2 n3 c3 n4 c4 mn F ls _ (HF.out.later hB)).mono ?_
  rintro e w1 ⟨s, rfl, hsm, hb1⟩
  have hk1 : Kept [] W w1 := (Kept.refl _ _).call hb1
  have hkw1 : Kept [] w w1 := keptTrans hkW hk1
  have ⟨L1, C1, F1⟩ := hk1.blk (by simp) B0
  clear C0 F0
  cases s with
  | false =>
    go_wp2_with fail
    go_ret
    exact ⟨rfl, hkw1.toBelow⟩
  | true =>
  have hsz := hsm rfl
  clear hsm
  by_cases t5 : 40 < n5
  · have d5 : decide ((40 : Int) < n5) = true := by simp; omega
    go_wp2_with fail
    go_ret
    exact ⟨rfl, hkw1.toBelow⟩
  have d5 : decide ((40 : Int) < n5) = false := by simp; omega
  obtain ⟨er, her⟩ : ∃ er, alErr ns es mn F ls sd path = er := ⟨_, rfl⟩
  have HER := Lib.hid her
  clear her
  go_wp2_with fail
  refine (pAlong_any A1 A2 A3 A4 A5 n1 c1 n2 c2 n3 c3 n4 c4 n5 c5 mn F ns es ls sd path _ (HG.out.kept hkw1) (HF.out.later hkw1.toBelow) (HS.out.later hkw1.toBelow) (HP.out.later hkw1.toBelow) (by omega) hc4 (HGV.out.later hkw1.toBelow) er HER.out).mono ?_
  rintro e w2 ⟨h2, hb2⟩
  have hk2 : Kept [] W w2 := hk1.call hb2
  have hkw2 : Kept [] w w2 := keptTrans hkW hk2
  have ⟨L2, C2, F2⟩ := hk2.blk (by simp) B0
  clear C1 F1
  by_cases h0 : er = 0
  case neg =>
    rcases h2 with ⟨-, rfl⟩ | ⟨h9, -⟩
    case inr => exact absurd h9 h0
    go_wp2_with fail
    refine (rAlong_any A1 A2 A3 A4 A5 n1 c1 n2 c2 n3 c3 n4 c4 n5 c5 mn F ns es ls sd path _ (HG.out.kept hkw2) (HF.out.later hkw2.toBelow) (HS.out.later hkw2.toBelow) (HP.out.later hkw2.toBelow) (by omega) er HER.out).mono ?_
    rintro e w3 ⟨h3, hb3⟩
    rcases h3 with ⟨-, rfl⟩ | ⟨h9, -⟩
    case inr => exact absurd h9 h0
    have hkw3 : Kept [] w w3 := hkw2.call hb3
    clear h0
    go_wp2_with fail
    refine (values_any none none 0 0 0 (fun _ => ⟨0, 0⟩) _ (fun h => absurd h (by omega)) (fun h => absurd h (by omega)) (by omega)).mono ?_
    rintro e w4 ⟨rfl, hb4⟩
    have hkw4 : Kept [] w w4 := hkw3.call hb4
    go_wp2_with fail
    refine (knows_any _ (HGV.out.later hkw4.toBelow)).mono ?_
    rintro e w5 ⟨rfl, hb5⟩
    go_wp2_with fail
    go_ret
    exact ⟨rfl, (hkw4.call hb5).toBelow⟩
  subst h0
  rcases h2 with ⟨h9, -⟩ | ⟨-, g, c, rfl, hv2, hg2, hc2⟩
  · exact absurd rfl h9
  have V2 := Lib.hid hv2
  clear hv2
  go_wp2_with fail
  refine (rAlong_any A1 A2 A3 A4 A5 n1 c1 n2 c2 n3 c3 n4 c4 n5 c5 mn F ns es ls sd path _ (HG.out.kept hkw2) (HF.out.later hkw2.toBelow) (HS.out.later hkw2.toBelow) (HP.out.later hkw2.toBelow) (by omega) 0 HER.out).mono ?_
  rintro e w3 ⟨h3, hb3⟩
  rcases h3 with ⟨h9, -⟩ | ⟨-, g', c', rfl, hv3, hg3, hc3⟩
  · exact absurd rfl h9
  have V3 := Lib.hid hv3
  have hkw3 : Kept [] w w3 := hkw2.call hb3
  have V23 := Lib.hid (V2.out.later hb3)
  clear hv3
  obtain ⟨Fn, hFn⟩ : ∃ Fn, F.toNat = Fn := ⟨_, rfl⟩
  rw [hFn]
  rw [hFn] at V3 V23
  go_wp2_with fail
  refine (values_any (some ⟨g, 0, none⟩) (some ⟨g', 0, none⟩) Fn c c' _ _ (fun _ => ⟨g, rfl, V23.out⟩) (fun _ => ⟨g', rfl, V3.out⟩) (by omega)).mono ?_
  rintro e w4 ⟨rfl, hb4⟩
  have hkw4 : Kept [] w w4 := hkw3.call hb4
  go_wp2_with fail
  refine (knows_any _ (HGV.out.later hkw4.toBelow)).mono ?_
  rintro e w5 ⟨rfl, hb5⟩
  go_wp2_with fail
  go_ret
  exact ⟨rfl, (hkw4.call hb5).toBelow⟩
end Go.Proofs.YtmjebjjhfoncfaaDoor
