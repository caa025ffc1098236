/- Texts: Pl Rh. -/
import Derived.Test.YtooejoajojanjaaGreatDoorSx05
import Derived.Test.YtooejoajojanjaaGreatDoorSx12
import Derived.Test.YtooejoajojanjaaGreatDoorSx11
namespace Go.Proofs.YtooejoajojanjaaGreatDoor
open Go.RowKit Go.Df Go.Df.If
attribute [local go_sem ↓] Go.wp_at_zero Go.wp_at_succ
set_option maxRecDepth 100000 in
set_option maxHeartbeats 2000000 in
theorem rText_any (A : Option Addr) (n c : Nat) (L : List Su) (w : World) (hS : SmW w A n L) :
    Calls Tryz.prog 18 #[.slice A n c] w fun e w' => e = .returned (.tuple #[.string ⟨(texS L).1.toArray⟩, .int .i64 (texS L).2]) ∧ Below w.heap.size w w' := by
  have HS := Lib.hid hS
  obtain ⟨pe, hpe⟩ : ∃ pe, sumErr 1024 L = pe := ⟨_, rfl⟩
  have HPE := Lib.hid hpe
  have HCK := Lib.hid (rsumck_any A n c L 1024 w hS)
  rw [hpe] at HCK
  clear hS hpe
  go_enter Tryz.func18, Tryz.ntmps18
  go_upto_region 2 with (go_at_call 12; refine HCK.out.mono ?_; rintro e w1 ⟨rfl, hb1⟩)
  by_cases h0 : pe = 0
  case neg =>
    have d0 : (pe != 0) = true := by simpa using h0
    have hE : Hid (texS L = ([], pe)) := by
      show _ = _
      unfold texS
      rw [HPE.out, if_pos h0]
    clear h0
    go_wp2_with fail
    go_ret2
    rw [hE.out]
    exact ⟨rfl, hb1⟩
  subst h0
  have HS1 := Lib.hid (HS.out.later hb1)
  obtain ⟨s, hs⟩ : ∃ s, txt L = s := ⟨_, rfl⟩
  obtain ⟨ln, hln⟩ : ∃ ln, s.length = ln := ⟨_, rfl⟩
  have HSS := Lib.hid hs
  have HLN := Lib.hid hln
  have HTX := Lib.hid (rtext_any A n c L w1 HS1.out HPE.out)
  rw [hs] at HTX
  by_cases hbig : 65536 < ln
  case pos =>
    have g1 : decide ((65536 : Int) < (ln : Int)) = true := by simp; omega
    have hE : Hid (texS L = ([], 3)) := by
      show _ = _
      unfold texS
      rw [HPE.out, if_neg (by simp), if_pos (by rw [HSS.out, HLN.out]; omega)]
    clear hbig hs
    go_wp2_with (go_at_call 45; refine HTX.out.mono ?_; rintro e w9 ⟨rfl, hb9⟩)
    go_ret2
    rw [hE.out]
    exact ⟨rfl, (((Kept.refl [] w).call hb1).call hb9).toBelow⟩
  case neg =>
    have g1 : decide ((65536 : Int) < (ln : Int)) = false := by simp; omega
    have hE : Hid (texS L = (s, 0)) := by
      show _ = _
      unfold texS
      rw [HPE.out, if_neg (by simp), if_neg (by rw [HSS.out, HLN.out]; omega), HSS.out]
    clear hbig hs
    go_wp2_with (go_at_call 45; refine HTX.out.mono ?_; rintro e w9 ⟨rfl, hb9⟩)
    go_ret2
    rw [hE.out]
    exact ⟨rfl, (((Kept.refl [] w).call hb1).call hb9).toBelow⟩
end Go.Proofs.YtooejoajojanjaaGreatDoor
namespace Go.Df.If
open Go.RowKit Go.Df
theorem know_txt : txt [⟨3, [⟨0, 0⟩], []⟩] = [102, 117, 110, 99, 32, 51, 10, 101, 120, 105, 116, 32, 48, 32, 48, 10] := by
  have e3 : Lib.itoa 3 = [51] := (itoa_nat 3).trans (dec_lt (by decide))
  have e0 : Lib.itoa 0 = [48] := (itoa_nat 0).trans (dec_lt (by decide))
  simp [txt, txS, ln1, ln2, e3, e0, kwF, kwE]
theorem know_tex : texS [⟨3, [⟨0, 0⟩], []⟩] = ([102, 117, 110, 99, 32, 51, 10, 101, 120, 105, 116, 32, 48, 32, 48, 10], 0) := by
  have h : sumErr 1024 [⟨3, [⟨0, 0⟩], []⟩] = 0 := by decide
  unfold texS
  rw [h, if_neg (by decide), know_txt, if_neg (by decide)]
theorem know_par : parS [101, 120, 105, 116, 32, 48, 32, 48, 10] = ([], 1, 2) := by decide
theorem prs_blk {w : World} {b : Nat} {l : List Pr} (h : Blk w b (prC l)) : Prs w (some ⟨b, 0, none⟩) l.length l :=
  ⟨rfl, fun _ => ⟨b, 0, rfl, h.1, fun i hi => by
    rw [Nat.zero_add, h.2.1, h.2.1]
    exact prC_get hi⟩⟩
theorem prs_nil (w : World) : Prs w none 0 [] := ⟨rfl, fun h => absurd h (by omega)⟩
theorem ints_blk1 {w : World} {b : Nat} {x : Int} (h : Blk w b [.int .i64 x]) : Ints w (some ⟨b, 0, none⟩) 1 [x] :=
  ⟨rfl, fun _ => ⟨b, 0, rfl, h.1, fun i hi => by
    obtain rfl : i = 0 := by omega
    exact h.2.1 0⟩⟩
theorem know_ap : applyF [⟨0, 0⟩, ⟨1, 2⟩] [1] = [2] ∧ applyF [] [1] = [] := by decide
end Go.Df.If
namespace Go.Proofs.YtooejoajojanjaaGreatDoor
open Go.RowKit Go.Df Go.Df.If
attribute [local go_sem ↓] Go.wp_at_zero Go.wp_at_succ
/-- What the variables of the library hold, now and behind every call. -/
def Env (w : World) : Prop := ∃ m, ∀ w', Below w.heap.size w w' → Lib.TabIs Tryz.prog w' "internal/strconv.uint64pow10" .u64 Lib.pow10Tab ∧ w'.cell? ⟨2, 0, none⟩ = some (.int .i64 m) ∧ w'.cell? ⟨0, 0, none⟩ = some (.iface 195 (.agg #[.pointer (some ⟨7, 79, none⟩)]))
theorem Env.later {w w' : World} (h : Env w) (hb : Below w.heap.size w w') : Env w' := let ⟨m, h⟩ := h; ⟨m, fun w2 h2 => h w2 (hb.trans (h2.mono hb.size))⟩
theorem Env.tabs {w : World} (h : Env w) : ∀ B w', B = w.heap.size → Below B w w' → Tabs B w' := fun B w' e hb w2 h2 => by subst e; let ⟨_, h⟩ := h; exact (h w2 (hb.trans h2)).1
theorem Env.mx {w : World} (h : Env w) : Mx w.heap.size w := let ⟨m, h⟩ := h; ⟨m, fun w2 h2 => (h w2 h2).2.1⟩
theorem Env.et {w : World} (h : Env w) : w.cell? ⟨0, 0, none⟩ = some (.iface 195 (.agg #[.pointer (some ⟨7, 79, none⟩)])) := let ⟨_, h⟩ := h; (h w (Below.refl _ _)).2.2
set_option maxRecDepth 100000 in
set_option maxHeartbeats 4000000 in
theorem knows35_any (w : World) (hE : Env w) : Calls Tryz.prog 13 #[] w fun e w' => e = .returned (.bool true) ∧ Below w.heap.size w w' := by
  have HE := Lib.hid hE
  clear hE
  go_enter Tryz.func13, Tryz.ntmps13
  go_wp2_with fail
  -- MARK1
  have B1 : Blk ((w.alloc (.cells #[.int .i64 0, .int .i64 0] 72)).alloc (.cells #[.int .i64 3, .slice (some ⟨w.heap.size, 0, none⟩) 1 1, .slice none 0 0] 30)) w.heap.size (prC [⟨0, 0⟩]) := (Blk.new w _ _ _ rfl).alloc _
  have B2 : Blk ((w.alloc (.cells #[.int .i64 0, .int .i64 0] 72)).alloc (.cells #[.int .i64 3, .slice (some ⟨w.heap.size, 0, none⟩) 1 1, .slice none 0 0] 30)) (w.heap.size + 1) [.int .i64 3, .slice (some ⟨w.heap.size, 0, none⟩) 1 1, .slice none 0 0] := Blk.new (w.alloc _) _ _ _ (by simp)
  have hk0 : Kept [] w ((w.alloc (.cells #[.int .i64 0, .int .i64 0] 72)).alloc (.cells #[.int .i64 3, .slice (some ⟨w.heap.size, 0, none⟩) 1 1, .slice none 0 0] 30)) := ((Kept.refl [] w).alloc _).alloc _
  have hSm : SmW ((w.alloc (.cells #[.int .i64 0, .int .i64 0] 72)).alloc (.cells #[.int .i64 3, .slice (some ⟨w.heap.size, 0, none⟩) 1 1, .slice none 0 0] 30)) (some ⟨w.heap.size + 1, 0, none⟩) 1 [⟨3, [⟨0, 0⟩], []⟩] :=
    ⟨rfl, fun _ => ⟨_, 0, rfl, B2.1, fun i hi => by
      obtain rfl : i = 0 := by omega
      exact ⟨some ⟨w.heap.size, 0, none⟩, 1, 1, none, 0, 0, B2.2.1 0, B2.2.1 1, B2.2.1 2, prs_blk B1, prs_nil _⟩⟩⟩
  have HT := Lib.hid (ptext_any (some ⟨w.heap.size + 1, 0, none⟩) 1 1 [⟨3, [⟨0, 0⟩], []⟩] _ hSm (by omega) (HE.out.later hk0.toBelow).tabs)
  rw [know_tex] at HT
  refine HT.out.mono ?_
  rintro e w1 ⟨rfl, hb1⟩
  have hk1 : Kept [] w w1 := hk0.call hb1
  have HE1 := Lib.hid (HE.out.later hk1.toBelow)
  clear B1 B2 hSm HT hk0 hb1
  go_wp2_with fail
  -- MARK2
  have HP := Lib.hid (pParse_any [101, 120, 105, 116, 32, 48, 32, 48, 10] w1 (by simp) HE1.out.mx HE1.out.et)
  rw [know_par] at HP
  refine HP.out.mono ?_
  rintro e w2 ⟨A2, n2, c2, rfl, -, hb2⟩
  have hk2 : Kept [] w w2 := hk1.call hb2
  clear hk1 hb2 HP HE1
  go_wp2_with fail
  -- MARK3
  have B1 : Blk ((w2.alloc (.cells #[.int .i64 0, .int .i64 0, .int .i64 1, .int .i64 2] 72)).alloc (.cells #[.int .i64 1] 3)) w2.heap.size (prC [⟨0, 0⟩, ⟨1, 2⟩]) := (Blk.new w2 _ _ _ rfl).alloc _
  have B2 : Blk ((w2.alloc (.cells #[.int .i64 0, .int .i64 0, .int .i64 1, .int .i64 2] 72)).alloc (.cells #[.int .i64 1] 3)) (w2.heap.size + 1) [.int .i64 1] := Blk.new (w2.alloc _) _ _ _ (by simp)
  have hk3 : Kept [] w ((w2.alloc (.cells #[.int .i64 0, .int .i64 0, .int .i64 1, .int .i64 2] 72)).alloc (.cells #[.int .i64 1] 3)) := (hk2.alloc _).alloc _
  have HA := Lib.hid (pap_any (some ⟨w2.heap.size, 0, none⟩) none (some ⟨w2.heap.size + 1, 0, none⟩) 2 2 0 0 1 1 0 [⟨0, 0⟩, ⟨1, 2⟩] [] [1] _ (prs_blk B1) (prs_nil _) (ints_blk1 B2) (by omega) (by omega) (by omega) (by decide) (by decide) (by decide))
  rw [know_ap.1, know_ap.2] at HA
  refine HA.out.mono ?_
  rintro e w3 ⟨A3, n3, c3, A4, n4, c4, rfl, hi3, hi4, hb3⟩
  obtain rfl : n3 = 1 := hi3.1.symm
  obtain rfl : n4 = 0 := hi4.1.symm
  obtain ⟨b, o, rfl, hl, hc⟩ := hi3.2 (by omega)
  have c0 : w3.cell? ⟨b, o, none⟩ = some (.int .i64 2) := hc 0 (by omega)
  have HK4 : Hid (Kept [] w w3) := Lib.hid (hk3.call hb3)
  clear hi3 hi4 hc B1 B2 hk2 hk3 hb3 HA HE
  go_wp2_with fail
  go_ret
  exact ⟨rfl, HK4.out.toBelow⟩
end Go.Proofs.YtooejoajojanjaaGreatDoor
