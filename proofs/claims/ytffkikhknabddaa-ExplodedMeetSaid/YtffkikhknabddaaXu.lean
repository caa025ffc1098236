/- The law ExplodedMeet; paths that came in. (Printed by genXs.py.) -/
import Derived.Test.YtffkikhknabddaaXs
import Derived.Test.YtffkikhknabddaaXr
import Derived.Test.YtffkikhknabddaaLd
namespace Go.Proofs.Ytffkikhknabddaa
open Go.RowKit Go.Df Go.Df.If
attribute [local go_sem ↓] Go.wp_at_zero Go.wp_at_succ

set_option maxRecDepth 100000 in
set_option maxHeartbeats 8000000 in
theorem expMeet_any (A1 A2 A3 A4 A6 : Option Addr) (n1 c1 n2 c2 n3 c3 n4 c4 n6 c6 : Nat) (mn F : Int) (ns : List Sp.Nd) (es : List Sp.Ed) (ls : List (List Pr)) (sd : List Sd) (ps : Nat → List Int) (w : World) (hg : Gr w A1 n1 A2 n2 ns es) (hf : Flw w A3 n3 ls) (hs : Sds w A4 n4 sd) (hp : Pths w A6 n6 ps) (hc4 : n4 ≤ c4) :
    Calls Try.prog 12 #[.agg #[.slice A1 n1 c1, .slice A2 n2 c2, .int .i64 mn, .int .i64 F, .slice A3 n3 c3, .slice A4 n4 c4], .slice A6 n6 c6] w fun e w' => e = .returned (.bool true) ∧ Below w.heap.size w w' := by
  have HG := Lib.hid hg
  have HF := Lib.hid hf
  have HS := Lib.hid hs
  have HP := Lib.hid hp
  clear hg hf hs hp
  go_enter Try.func12, Try.ntmps12
  go_upto_region 1 with fail
  refine wp_named (fun W => ∃ b0, w.heap.size = b0 ∧ Blk W b0 [.slice A1 n1 c1, .slice A2 n2 c2, .int .i64 mn, .int .i64 F, .slice A3 n3 c3, .slice A4 n4 c4] ∧ Below w.heap.size w W) ⟨_, rfl, ?_, ?_⟩ ?_
  · exact Blk.new _ _ _ _ (by first | rfl | simp)
  · go_grown
  rintro W ⟨b0, e0, B0, hB⟩
  rw [e0]
  have G0 : w.heap.size ≤ b0 := by omega
  clear e0
  have ⟨L0, C0, F0⟩ := B0
  have hkW : Kept [] w W := (Kept.refl _ _).call hB
  go_wp2_with fail
  refine (small31_any A1 A2 A3 A4 n1 c1 n2 c2 n3 c3 n4 c4 mn F ls _ (HF.out.later hB)).mono ?_
  rintro e w1 ⟨⟨s, rfl, hsm⟩, hb1⟩
  have hk1 : Kept [] W w1 := (Kept.refl _ _).call hb1
  have hkw1 : Kept [] w w1 := keptTrans hkW hk1
  have ⟨L1, C1, F1⟩ := hk1.blk (by simp) B0
  clear C0 F0
  cases s with
  | false =>
    go_wp2_with fail
    go_ret
    exact ⟨rfl, hkw1.toBelow⟩
  | true =>
  have hsz := hsm rfl
  clear hsm
  by_cases t5 : 6 < n6
  · have d5 : decide ((6 : Int) < n6) = true := by simp; omega
    go_wp2_with fail
    go_ret
    exact ⟨rfl, hkw1.toBelow⟩
  have d5 : decide ((6 : Int) < n6) = false := by simp; omega
  obtain ⟨er, her⟩ : ∃ er, mtErr ⟨ns, es, mn, F, ls, sd⟩ n6 ps = er := ⟨_, rfl⟩
  have HER := Lib.hid her
  clear her
  go_wp2_with fail
  go_loop [5] (fun s => ∃ i : Nat, i ≤ n6 ∧ s = .int .i64 i) (fun s => n6 - (intOf s).toNat)
  case atStart => exact ⟨0, Nat.zero_le _, rfl⟩
  case round =>
  obtain ⟨i, hi, rfl⟩ := hrel
  by_cases hlt : i < n6
  · obtain ⟨b6, o6, Ai, ni, ci, rfl, hl6, hc6, -⟩ := HP.out.row hkw1.toBelow hlt
    have hl6r : b6 < w1.heap.size := Nat.lt_of_lt_of_le hl6 hkw1.size
    have hi1 : (i : Int) < (n6 : Int) := by omega
    by_cases t6 : 30 < ni
    · have d6 : decide ((30 : Int) < ni) = true := by simp; omega
      go_wp2_with fail
      go_ret
      exact ⟨rfl, hkw1.toBelow⟩
    · have d6 : decide ((30 : Int) < ni) = false := by simp; omega
      go_wp2_with fail
      exact ⟨⟨i + 1, by omega, by go_num⟩, by simp [intOf]; omega⟩
  obtain rfl : i = n6 := by omega
  clear hlt
  go_wp2_with fail
  refine (pMeet_any A1 A2 A3 A4 A6 n1 c1 n2 c2 n3 c3 n4 c4 i c6 mn F ns es ls sd ps _ (HG.out.kept hkw1) (HF.out.later hkw1.toBelow) (HS.out.later hkw1.toBelow) (HP.out.later hkw1.toBelow) (by omega) (by omega) hc4 er HER.out).mono ?_
  rintro e w2 ⟨h2, hb2⟩
  have hk2 : Kept [] W w2 := hk1.call hb2
  have hkw2 : Kept [] w w2 := keptTrans hkW hk2
  have ⟨L2, C2, F2⟩ := hk2.blk (by simp) B0
  clear C1 F1
  by_cases h0 : er = 0
  case neg =>
    rcases h2 with ⟨-, rfl⟩ | ⟨h9, -⟩
    case inr => exact absurd h9 h0
    go_wp2_with fail
    refine (rMeet_any A1 A2 A3 A4 A6 n1 c1 n2 c2 n3 c3 n4 c4 i c6 mn F ns es ls sd ps _ (HG.out.kept hkw2) (HF.out.later hkw2.toBelow) (HS.out.later hkw2.toBelow) (HP.out.later hkw2.toBelow) (by omega) (by omega) er HER.out).mono ?_
    rintro e w3 ⟨h3, hb3⟩
    rcases h3 with ⟨-, rfl⟩ | ⟨h9, -⟩
    case inr => exact absurd h9 h0
    have hkw3 : Kept [] w w3 := hkw2.call hb3
    clear h0
    go_wp2_with fail
    refine (samef_any none none 0 0 0 [] _ (Ints.empty _ _) (Ints.empty _ _) (by omega)).mono ?_
    rintro e w4 ⟨rfl, hb4⟩
    have hkw4 : Kept [] w w4 := hkw3.call hb4
    go_wp2_with fail
    refine (knows31_any _).mono ?_
    rintro e w5 ⟨rfl, hb5⟩
    go_wp2_with fail
    go_ret
    exact ⟨rfl, (hkw4.call hb5).toBelow⟩
  subst h0
  rcases h2 with ⟨h9, -⟩ | ⟨-, Q, m, c, rfl, hi2, hmc⟩
  · exact absurd rfl h9
  have HI2 := Lib.hid hi2
  clear hi2
  go_wp2_with fail
  refine (rMeet_any A1 A2 A3 A4 A6 n1 c1 n2 c2 n3 c3 n4 c4 i c6 mn F ns es ls sd ps _ (HG.out.kept hkw2) (HF.out.later hkw2.toBelow) (HS.out.later hkw2.toBelow) (HP.out.later hkw2.toBelow) (by omega) (by omega) 0 HER.out).mono ?_
  rintro e w3 ⟨h3, hb3⟩
  rcases h3 with ⟨h9, -⟩ | ⟨-, Q', m', c', rfl, hi3, hmc'⟩
  · exact absurd rfl h9
  obtain rfl : m = m' := HI2.out.1.symm.trans hi3.1
  have HI3 := Lib.hid hi3
  have hkw3 : Kept [] w w3 := hkw2.call hb3
  have HI23 := Lib.hid (HI2.out.later hb3)
  have hm9 : m ≤ 9223372036854775807 := by
    have h0 : pbErr ⟨ns, es, mn, F, ls, sd⟩ = 0 := by have := HER.out; unfold mtErr at this; split at this; exact this; exact Decidable.byContradiction (by assumption)
    have h1 : Go.Df.Sp.fe (pthErr ns es mn ps) 0 i = 0 := by have := HER.out; unfold mtErr at this; rw [if_neg (not_not_intro h0)] at this; exact this
    have h9 := mtF_len (ok_of h0) (ps := ps) (i := i) (fun x hx => by
      have h9 := Go.Df.Sp.fe_zero _ _ h1 x (Nat.zero_le _) (by omega)
      unfold pthErr at h9
      split at h9
      · rename_i h8; exact absurd h9 h8
      · rename_i h8
        exact (follow_in (Decidable.byContradiction h8)).2)
    have h8 := HI2.out.1
    omega
  clear hi3
  go_wp2_with fail
  refine (samef_any Q Q' m c c' _ _ HI23.out HI3.out hm9).mono ?_
  rintro e w4 ⟨rfl, hb4⟩
  have hkw4 : Kept [] w w4 := hkw3.call hb4
  go_wp2_with fail
  refine (knows31_any _).mono ?_
  rintro e w5 ⟨rfl, hb5⟩
  go_wp2_with fail
  go_ret
  exact ⟨rfl, (hkw4.call hb5).toBelow⟩
end Go.Proofs.Ytffkikhknabddaa
namespace Go.Proofs.Ytffkikhknabddaa
open Go.RowKit Go.ChangeShapes Go.WideShapes Go.Joins Go.Df
section
variable {H : Type} {enc : TypeId × Value → H} {w : World} {base : Nat} {held : Bool}
/-- Paths that came in. -/
theorem open_paths {fuel : Nat} {v : Value} {x : DataW H × List MemPlace} (h : DataW.trod enc Try.prog w base (fun _ => true) held fuel 41 [v] = some x) : ∃ A n c ps, v = .slice A n c ∧ Pths w A n ps := by
  obtain ⟨A, n, c, rfl, -, hrow⟩ := open_rowsC Try.underlying41 (by kernel_rfl) h
  have hex : ∀ i, ∃ l : List Int, ∀ b o, A = some ⟨b, o, none⟩ → i < n → ∃ Ai ni ci, w.cell? ⟨b, o + i, none⟩ = some (.slice Ai ni ci) ∧ Ints w Ai ni l := by
    intro i
    by_cases hi : i < n
    · obtain ⟨b, o, rfl, hb, hc⟩ := hrow (by omega)
      obtain ⟨u, m, y, h1, h2⟩ := hc i hi
      obtain ⟨Ai, ni, ci, path, rfl, hp, _⟩ := open_SIn Try.underlying26 Try.underlying3 (by kernel_rfl) h2
      refine ⟨path, fun b' o' e' _ => ?_⟩
      injection e' with e'
      injection e' with e1 e2
      subst e1 e2
      exact ⟨Ai, ni, ci, h1, hp.1⟩
    · exact ⟨[], fun _ _ _ h => absurd h hi⟩
  refine ⟨A, n, c, fun i => (hex i).choose, rfl, fun h0 => ?_⟩
  obtain ⟨b, o, rfl, hb, -⟩ := hrow h0
  exact ⟨b, o, rfl, hb, fun i hi => (hex i).choose_spec b o rfl hi⟩
end
end Go.Proofs.Ytffkikhknabddaa
