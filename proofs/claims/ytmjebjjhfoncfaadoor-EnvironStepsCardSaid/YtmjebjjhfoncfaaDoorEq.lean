/- The contract of the program's Along. -/
import Derived.Test.YtmjebjjhfoncfaaDoorEp
import Derived.Test.YtmjebjjhfoncfaaDoorEf
namespace Go.Proofs.YtmjebjjhfoncfaaDoor
open Go.RowKit Go.Df
attribute [local go_sem ↓] Go.wp_at_zero Go.wp_at_succ

set_option maxRecDepth 100000 in
set_option maxHeartbeats 4000000 in
theorem pAlong_any (A1 A2 A3 A4 A5 : Option Addr) (n1 c1 n2 c2 n3 c3 n4 c4 n5 c5 : Nat) (mn F : Int) (ns : List Sp.Nd) (es : List Sp.Ed) (ls : List (List Sp.Xp)) (sd : List Sp.Vs) (path : List Int) (w : World) (hg : Gr w A1 n1 A2 n2 ns es) (hf : Fls w A3 n3 ls) (hs : Vss w A4 n4 sd) (hp : Ints w A5 n5 path) (hn4 : n4 < 4611686018427387904) (hc4 : n4 ≤ c4) (hgv : Gv w)
    (er : Int) (her : alErr ns es mn F ls sd path = er) :
    Calls Tryd.prog 9 #[.agg #[.slice A1 n1 c1, .slice A2 n2 c2, .int .i64 mn, .int .i64 F, .slice A3 n3 c3, .slice A4 n4 c4], .slice A5 n5 c5] w fun e w' =>
      ((er ≠ 0 ∧ e = .returned (.tuple #[.slice none 0 0, .int .i64 er])) ∨ (er = 0 ∧ ∃ g c, e = .returned (.tuple #[.slice (some ⟨g, 0, none⟩) F.toNat c, .int .i64 0]) ∧ Vals w' g F.toNat (runJ Xf.rmeetV Xf.rapply es ls sd mn path path.length) ∧ w.heap.size ≤ g ∧ F.toNat ≤ c)) ∧ Below w.heap.size w w' := by
  have HG := Lib.hid hg
  have HF := Lib.hid hf
  have HS := Lib.hid hs
  have HP := Lib.hid hp
  have HER := Lib.hid her
  have HGV := Lib.hid hgv
  clear hg hf hs hp her hgv
  go_enter Tryd.func9, Tryd.ntmps9
  go_upto_region 1 with fail
  refine wp_named (fun W => ∃ b0, w.heap.size = b0 ∧ Blk W b0 [.slice A1 n1 c1, .slice A2 n2 c2, .int .i64 mn, .int .i64 F, .slice A3 n3 c3, .slice A4 n4 c4] ∧ Below w.heap.size w W) ⟨_, rfl, ?_, ?_⟩ ?_
  · exact Blk.new _ _ _ _ (by first | rfl | simp)
  · go_grown
  rintro W ⟨b0, e0, B0, hB⟩
  rw [e0]
  have G0 : w.heap.size ≤ b0 := by omega
  clear e0
  have ⟨L0, C0, F0⟩ := B0
  have hkW : Kept [] w W := (Kept.refl _ _).call hB
  obtain ⟨ie, hie⟩ : ∃ ie, Sp.ideErr ns es mn F ls sd = ie := ⟨_, rfl⟩
  have HIE := Lib.hid hie
  clear hie
  go_upto_region 2 with (go_at_call 20; refine (ideck_any A1 A2 A3 A4 n1 c1 n2 c2 n3 c3 n4 c4 mn F ns es ls sd _ (HG.out.nd.later hB) (HG.out.ed.later hB) (HF.out.later hB) (HS.out.later hB) (by omega) HG.out.wn HG.out.we (HGV.out.later hB)).mono ?_; rw [HIE.out]; rintro e w1 ⟨rfl, hb1⟩)
  have hk1 : Kept [] W w1 := (Kept.refl _ _).call hb1
  have hkw1 : Kept [] w w1 := keptTrans hkW hk1
  have ⟨L1, C1, F1⟩ := hk1.blk (by simp) B0
  clear C0 F0
  by_cases h0 : ie = 0
  case neg =>
    have h0' : (ie != 0) = true := by simpa using h0
    have hE : Hid (er = ie) := by show _ = _; rw [← HER.out]; unfold alErr; rw [HIE.out, if_pos h0]
    have h0n : er ≠ 0 := by rw [hE.out]; exact h0
    clear h0
    go_wp2_with fail
    go_ret2
    exact ⟨.inl ⟨h0n, by rw [hE.out]; rfl⟩, hkw1.toBelow⟩
  subst h0
  have hE : Hid (er = (Sp.followS ns es mn mn path).1) := by show _ = _; rw [← HER.out]; unfold alErr; rw [HIE.out, if_neg (by simp)]
  obtain ⟨fe, fa, fc, hfe⟩ : ∃ a b c, Sp.followS ns es mn mn path = (a, b, c) := ⟨_, _, _, rfl⟩
  have HFE := Lib.hid hfe
  clear hfe
  go_upto_region 5 with (go_at_call 22; refine (pcheck_any A1 A2 A5 n1 c1 n2 c2 n5 c5 mn mn ns es path _ (HG.out.kept hkw1) (HP.out.later hkw1.toBelow)).mono ?_; rw [HFE.out]; rintro e w2 ⟨rfl, hb2⟩)
  have hk2 : Kept [] W w2 := hk1.call hb2
  have hkw2 : Kept [] w w2 := keptTrans hkW hk2
  have ⟨L2, C2, F2⟩ := hk2.blk (by simp) B0
  clear C1 F1
  have hE2 : Hid (er = fe) := by show _ = _; rw [hE.out, HFE.out]
  by_cases h0 : fe = 0
  case neg =>
    have h0' : (fe != 0) = true := by simpa using h0
    have h0n : er ≠ 0 := by rw [hE2.out]; exact h0
    clear h0
    go_wp2_with fail
    go_ret2
    exact ⟨.inl ⟨h0n, by rw [hE2.out]; rfl⟩, hkw2.toBelow⟩
  subst h0
  have hok := ide_parts HIE.out
  obtain ⟨Fn, rfl⟩ := Int.eq_ofNat_of_zero_le (show 0 ≤ F by have := hok.f1; omega)
  have HO := Lib.hid hok
  have HPI := Lib.hid (follow_in (path := path) (ns := ns) (es := es) (mn := mn) (fr := mn) (by rw [HFE.out]))
  clear hok
  go_wp2_with (go_at_call 23; refine (along_any A1 A2 A3 A4 A5 n1 c1 n2 c2 n3 c3 n4 c4 n5 c5 Fn mn ns es ls sd path _ (HG.out.kept hkw2).ed (HF.out.later hkw2.toBelow) (HS.out.later hkw2.toBelow) (HP.out.later hkw2.toBelow) hn4 hc4 HO.out HPI.out.1 HPI.out.2).mono ?_; rintro e w3 ⟨g, c, rfl, hv3, hg3, hc3, hb3⟩; have V3 := Lib.hid hv3; clear hv3)
  go_ret2
  exact ⟨.inr ⟨hE2.out, g, c, rfl, by rw [← run_eq HO.out.sok]; simpa using V3.out, Nat.le_trans hkw2.size hg3, by simpa using hc3⟩, (hkw2.call hb3).toBelow⟩
end Go.Proofs.YtmjebjjhfoncfaaDoor
