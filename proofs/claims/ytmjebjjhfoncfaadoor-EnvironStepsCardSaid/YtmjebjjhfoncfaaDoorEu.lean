/- The contract of the law's knows. -/
import Derived.Test.YtmjebjjhfoncfaaDoorEt
import Derived.Test.YtmjebjjhfoncfaaDoorEq
namespace Go.Proofs.YtmjebjjhfoncfaaDoor
open Go.RowKit Go.Df
attribute [local go_sem ↓] Go.wp_at_zero Go.wp_at_succ
theorem sol_nil (w : World) (f : Nat → Nat → Xf.V) (l : Nat → Nat) : SolR w none 0 l f := ⟨by omega, fun i hi => absurd hi (by omega), fun h => absurd h (by omega)⟩
theorem sol_one {w : World} {b g c : Nat} {f : Nat → Xf.V} (hb : Blk w b [.slice (some ⟨g, 0, none⟩) 2 c]) (hv : Vals w g 2 f) : SolR w (some ⟨b, 0, none⟩) 1 (fun _ => 2) (fun _ => f) :=
  ⟨by omega, fun _ _ => by show 2 ≤ 9223372036854775807; omega, fun _ => ⟨b, 0, rfl, hb.1, fun i hi => by
    obtain rfl : i = 0 := by omega
    exact ⟨_, _, hb.2.1 0, fun _ => ⟨g, 0, rfl, hv.lt, fun d hd => ⟨by simpa using hv.c0 d hd, by simpa using hv.c1 d hd⟩⟩⟩⟩⟩
theorem above_a (b g c : Nat) (f : Nat → Xf.V) (w : World) (hb : Blk w b [.slice (some ⟨g, 0, none⟩) 2 c]) (hv : Vals w g 2 f) :
    Calls Tryd.prog 14 #[.agg #[.slice none 0 0], .agg #[.slice (some ⟨b, 0, none⟩) 1 1]] w fun e w' => e = .returned (.bool true) ∧ Below w.heap.size w w' := by
  refine (above_any none (some ⟨b, 0, none⟩) 0 0 1 1 (fun _ => 0) (fun _ => 2) (fun _ _ => ⟨0, 0⟩) (fun _ => f) w (sol_nil _ _ _) (sol_one hb hv)).mono ?_
  rintro e w' ⟨r, rfl, hr, hb⟩
  have : r = true := hr.2 (fun i hi => absurd hi (by omega))
  subst this
  exact ⟨rfl, hb⟩
theorem above_b (b g c : Nat) (f : Nat → Xf.V) (w : World) (hb : Blk w b [.slice (some ⟨g, 0, none⟩) 2 c]) (hv : Vals w g 2 f) (h0 : f 0 = ⟨2, 0⟩) :
    Calls Tryd.prog 14 #[.agg #[.slice (some ⟨b, 0, none⟩) 1 1], .agg #[.slice none 0 0]] w fun e w' => e = .returned (.bool false) ∧ Below w.heap.size w w' := by
  refine (above_any (some ⟨b, 0, none⟩) none 1 1 0 0 (fun _ => 2) (fun _ => 0) (fun _ => f) (fun _ _ => ⟨0, 0⟩) w (sol_one hb hv) (sol_nil _ _ _)).mono ?_
  rintro e w' ⟨r, rfl, hr, hb⟩
  have : r = false := by
    cases hh : r with
    | false => rfl
    | true =>
      have h9 := hr.1 hh 0 (by omega) 0 (by omega)
      rw [h0] at h9
      exact absurd h9 (by decide)
  subst this
  exact ⟨rfl, hb⟩
theorem one_err : alErr oneN oneE 0 2 oneL [] [0, 1] = 0 := by kernel_rfl
theorem one_v0 : runJ Xf.rmeetV Xf.rapply oneE oneL [] 0 [0, 1] 2 0 = ⟨2, 0⟩ := by kernel_rfl
theorem one_v1 : runJ Xf.rmeetV Xf.rapply oneE oneL [] 0 [0, 1] 2 1 = ⟨1, 7⟩ := by kernel_rfl

set_option maxRecDepth 100000 in
set_option maxHeartbeats 1000000 in
theorem knows_any (w : World) (hgv : Gv w) : Calls Tryd.prog 12 #[] w fun e w' => e = .returned (.bool true) ∧ Below w.heap.size w w' := by
  have HGV := Lib.hid hgv
  clear hgv
  go_enter Tryd.func12, Tryd.ntmps12
  go_upto_region 2 with (first
    | (go_at_call 25; refine (one_any _).mono ?_; rintro e w1 ⟨A1, A2, A3, c3, rfl, hG1, hF1, hb1⟩; have HG1 := Lib.hid hG1; have HF1 := Lib.hid hF1; clear hG1 hF1)
    | (go_at_call 9; have hkP := Lib.hid ((Kept.refl [] w1).alloc (.cells #[.int .i64 0, .int .i64 1] 3)); refine (pAlong_any A1 A2 A3 none _ 5 5 3 3 3 c3 0 0 2 2 0 2 oneN oneE oneL [] [0, 1] _ (HG1.out.later hkP.out.toBelow) (HF1.out.later hkP.out.toBelow) ⟨rfl, fun h => absurd h (by omega)⟩ (two_ints _ _ _ _ _ rfl) (by omega) (by omega) ((HGV.out.later hb1).later hkP.out.toBelow) 0 one_err).mono ?_; rintro e w2 ⟨⟨hn, -⟩ | ⟨-, g, c, rfl, hv2, hg2, hc2⟩, hb2⟩; (· exact absurd rfl hn); have V2 := Lib.hid hv2; have HB2 := Lib.hid (hkP.out.call hb2); clear hv2 hb2))
  have V3 : Hid (∃ f, Vals w2 g 2 f ∧ f 0 = ⟨2, 0⟩ ∧ f 1 = ⟨1, 7⟩) := Lib.hid ⟨_, V2.out, one_v0, one_v1⟩
  clear V2
  obtain ⟨f, hvf, hf0, hf1⟩ := V3.out
  have v0 : w2.cell? ⟨g, 0, none⟩ = some (.int .i64 2) := by have h := hvf.c0 0 (by omega); rw [hf0] at h; exact h
  have v1 : w2.cell? ⟨g, 1, none⟩ = some (.int .i64 0) := by have h := hvf.c1 0 (by omega); rw [hf0] at h; exact h
  have v2 : w2.cell? ⟨g, 2, none⟩ = some (.int .i64 1) := by have h := hvf.c0 1 (by omega); rw [hf1] at h; exact h
  have v3 : w2.cell? ⟨g, 3, none⟩ = some (.int .i64 7) := by have h := hvf.c1 1 (by omega); rw [hf1] at h; exact h
  have hgl := hvf.lt
  have VF := Lib.hid hvf
  have HF0 := Lib.hid hf0
  clear V3 hvf hf0 hf1
  go_upto_region 4 with fail
  go_wp2_with fail
  refine (above_a _ g c f _ (Blk.new _ _ _ _ rfl) (VF.out.kept ((Kept.refl [] _).alloc _) (by simp))).mono ?_
  rintro e w5 ⟨rfl, hb5⟩
  have HB5 : Hid (Kept [] w2 w5) := Lib.hid (((Kept.refl [] w2).alloc _).call hb5)
  clear hb5
  go_wp2_with fail
  refine (above_b _ g c f _ (Blk.new _ _ _ _ rfl) (VF.out.kept (HB5.out.alloc _) (by simp)) HF0.out).mono ?_
  rintro e w6 ⟨rfl, hb6⟩
  have HB6 : Hid (Kept [] w2 w6) := Lib.hid ((HB5.out.alloc _).call hb6)
  clear hb6
  go_wp2_with fail
  go_ret
  exact ⟨rfl, (keptTrans ((Kept.refl [] w).call hb1) (keptTrans HB2.out HB6.out)).toBelow⟩
end Go.Proofs.YtmjebjjhfoncfaaDoor
