/- The contract of the reference's met. -/
import Derived.Test.YtmjebjjhfoncfaaDoorEh
import Derived.Test.YtmjebjjhfoncfaaDoorLe
namespace Go.Proofs.YtmjebjjhfoncfaaDoor
open Go.RowKit Go.Df
attribute [local go_sem ↓] Go.wp_at_zero Go.wp_at_succ
/-- The values with the first j seeds met in at node nd. -/
def metS (me : Xf.V → Xf.V → Xf.V) (sd : List Sp.Vs) (nd : Int) (f : Nat → Xf.V) : Nat → Nat → Xf.V
  | 0, i => f i
  | j + 1, i => if (Sp.gs sd j).n = nd ∧ i = (Sp.gs sd j).f.toNat then me (metS me sd nd f j i) ⟨(Sp.gs sd j).k, (Sp.gs sd j).v⟩ else metS me sd nd f j i

set_option maxRecDepth 100000 in
set_option maxHeartbeats 40000000 in
theorem rmet_any (A1 A2 A3 A4 : Option Addr) (n1 c1 n2 c2 n3 c3 n4 c4 g F c : Nat) (mn FF nd : Int) (sd : List Sp.Vs) (f : Nat → Xf.V) (w0 w : World) (hs : Vss w0 A4 n4 sd) (hn4 : n4 ≤ 9223372036854775806) (hB0 : Below w0.heap.size w0 w) (hg0 : w0.heap.size ≤ g) (hv : Vals w g F f)
    (hsd : ∀ j, j < n4 → 0 ≤ (Sp.gs sd j).f ∧ (Sp.gs sd j).f < F) :
    Calls Tryd.prog 48 #[.agg #[.slice A1 n1 c1, .slice A2 n2 c2, .int .i64 mn, .int .i64 FF, .slice A3 n3 c3, .slice A4 n4 c4], .int .i64 nd, .slice (some ⟨g, 0, none⟩) F c] w fun e w' =>
      e = .returned (.slice (some ⟨g, 0, none⟩) F c) ∧ Vals w' g F (metS Xf.rmeetV sd nd f n4) ∧ Kept [g] w w' := by
  have HS := Lib.hid hs
  have HV := Lib.hid hv
  have HSD := Lib.hid hsd
  have hgl := hv.lt
  clear hs hv hsd
  go_enter Tryd.func48, Tryd.ntmps48
  go_upto_region 1 with fail
  refine wp_named (fun W => ∃ b0, w.heap.size = b0 ∧ Blk W b0 [.slice A1 n1 c1, .slice A2 n2 c2, .int .i64 mn, .int .i64 FF, .slice A3 n3 c3, .slice A4 n4 c4] ∧ Below w.heap.size w W) ⟨_, rfl, ?_, ?_⟩ ?_
  · exact Blk.new _ _ _ _ (by first | rfl | simp)
  · go_grown
  rintro W ⟨b0, e0, B0, hB⟩
  rw [e0]
  have G0 : w.heap.size ≤ b0 := by omega
  clear e0
  have ⟨L0, C0, F0⟩ := B0
  have hkW : Kept [] w W := (Kept.refl _ _).call hB
  have hb0g : b0 ≠ g := by omega
  have VW := Lib.hid (HV.out.kept hkW (by simp))
  go_wp2_with fail
  go_loopw [7] (fun i wr => ∃ j : Nat, j ≤ n4 ∧ i = .int .i64 j ∧ Kept [g] W wr ∧ Hid (Vals wr g F (metS Xf.rmeetV sd nd f j))) (fun i _ => n4 - (intOf i).toNat)
  case atStart => exact ⟨0, Nat.zero_le _, rfl, Kept.refl _ _, VW⟩
  case round =>
    obtain ⟨j, hj, rfl, hkr, vr⟩ := hrel
    have BR := hkr.blk (by simp; omega) B0
    have ⟨LR, CR, FR⟩ := BR
    have hkwr : Kept [g] w wr := ((Kept.refl [g] w).next hkW (by simp)).next hkr (by simp)
    have hB0r : Below w0.heap.size w0 wr := hkwr.below hB0 hB0.size (by simp; omega)
    clear C0 F0
    by_cases hlt : j < n4
    case neg =>
      obtain rfl : j = n4 := by omega
      go_wp2_with fail
      go_ret
      exact ⟨rfl, vr.out, hkwr⟩
    obtain ⟨b, o, rfl, hl, hc⟩ := HS.out.2 (by omega)
    obtain ⟨h1, h2, h3, h4⟩ := hc j hlt
    clear hc
    obtain ⟨sn, sf, sk, sv, en⟩ : ∃ sn sf sk sv, Sp.gs sd j = ⟨sn, sf, sk, sv⟩ := ⟨_, _, _, _, rfl⟩
    have hsf := HSD.out j hlt
    rw [en] at h1 h2 h3 h4 hsf
    dsimp only at h1 h2 h3 h4 hsf
    have r1 : wr.cell? ⟨b, o + j * 4, none⟩ = some (.int .i64 sn) := (hB0r.cell (p := ⟨b, _, none⟩) hl).trans h1
    have r2 : wr.cell? ⟨b, o + j * 4 + 1, none⟩ = some (.int .i64 sf) := (hB0r.cell (p := ⟨b, _, none⟩) hl).trans h2
    have r3 : wr.cell? ⟨b, o + j * 4 + 2, none⟩ = some (.int .i64 sk) := (hB0r.cell (p := ⟨b, _, none⟩) hl).trans h3
    have r4 : wr.cell? ⟨b, o + j * 4 + 3, none⟩ = some (.int .i64 sv) := (hB0r.cell (p := ⟨b, _, none⟩) hl).trans h4
    have hbg : b ≠ g := by omega
    have hlr : b < wr.heap.size := Nat.lt_of_lt_of_le hl hB0r.size
    have HE := Lib.hid en
    clear en h1 h2 h3 h4
    by_cases e1 : sn = nd
    · have e1' : (sn == nd) = true := by simpa using e1
      obtain ⟨x, rfl⟩ := Int.eq_ofNat_of_zero_le hsf.1
      have hx : x < F := by omega
      obtain ⟨u, hu⟩ : ∃ u, metS Xf.rmeetV sd nd f j x = u := ⟨_, rfl⟩
      have v0 := vr.out.c0 x hx
      have v1 := vr.out.c1 x hx
      rw [hu] at v0 v1
      obtain ⟨uk, un⟩ := u
      have f0 := vr.out.fz
      have hgr := vr.out.lt
      have hx1 : (x : Int) < (F : Int) := by omega
      have hj1 : (j : Int) < (n4 : Int) := by omega
      have HU := Lib.hid hu
      have HE1 := Lib.hid e1
      clear hu e1
      go_upto_region 5 with fail
      refine wp_region_E 24 (fun w' => SX0 wr w') (by kernel_rfl) (by (repeat' first | (with_reducible assumption) | (with_reducible exact SX0.init _) | (with_reducible exact SX0.refl _) | (with_reducible refine SX0.alloc ?_ _) | (with_reducible refine SX0.call ?_ (by assumption)) | (with_reducible refine SX0.set ?_ _ _ _ ?_) | (with_reducible refine SX0.drew ?_) | (simp; done) | omega | (simp; omega))) (fun hHeld => ?_)
      refine WE_take 0 (v := ?_) rfl (by kernel_rfl) (fun _ _ _ h => h) (Or.inl ⟨by rfl, ?_⟩) (by assumption) ?_; rotate_left; (· intro w9 hSw; (try dsimp only at hSw); go_simp; try with_reducible rfl); (try simp only [Act.put, List.setIfInBounds_toArray, List.set_cons_zero, List.set_cons_succ])
      refine WE_take 1 (v := ?_) rfl (by kernel_rfl) (fun _ _ _ h => h) (Or.inl ⟨by rfl, ?_⟩) (by assumption) ?_; rotate_left; (· intro w9 hSw; (try dsimp only at hSw); go_simp; try with_reducible rfl); (try simp only [Act.put, List.setIfInBounds_toArray, List.set_cons_zero, List.set_cons_succ])
      refine WE_take 2 (v := ?_) rfl (by kernel_rfl) (fun _ _ _ h => h) (Or.inl ⟨by rfl, ?_⟩) (by assumption) ?_; rotate_left; (· intro w9 hSw; (try dsimp only at hSw); go_simp; try with_reducible rfl); (try simp only [Act.put, List.setIfInBounds_toArray, List.set_cons_zero, List.set_cons_succ])
      refine WE_take 3 (v := ?_) rfl (by kernel_rfl) (fun _ _ _ h => h) (Or.inl ⟨by rfl, ?_⟩) (by assumption) ?_; rotate_left; (· intro w9 hSw; (try dsimp only at hSw); go_simp; try with_reducible rfl); (try simp only [Act.put, List.setIfInBounds_toArray, List.set_cons_zero, List.set_cons_succ])
      refine WE_take 4 (v := ?_) rfl (by kernel_rfl) (fun _ _ _ h => h) (Or.inl ⟨by rfl, ?_⟩) (by assumption) ?_; rotate_left; (· intro w9 hSw; (try dsimp only at hSw); go_simp; try with_reducible rfl); (try simp only [Act.put, List.setIfInBounds_toArray, List.set_cons_zero, List.set_cons_succ])
      refine WE_take 5 (v := ?_) rfl (by kernel_rfl) (fun _ _ _ h => h) (Or.inl ⟨by rfl, ?_⟩) (by assumption) ?_; rotate_left; (· intro w9 hSw; (try dsimp only at hSw); go_simp; try with_reducible rfl); (try simp only [Act.put, List.setIfInBounds_toArray, List.set_cons_zero, List.set_cons_succ])
      refine WE_take 6 (v := ?_) rfl (by kernel_rfl) (fun _ _ _ h => h) (Or.inl ⟨by rfl, ?_⟩) (by assumption) ?_; rotate_left; (· intro w9 hSw; (try dsimp only at hSw); go_simp; try with_reducible rfl); (try simp only [Act.put, List.setIfInBounds_toArray, List.set_cons_zero, List.set_cons_succ])
      refine WE_take 7 (v := ?_) rfl (by kernel_rfl) (fun _ _ _ h => h) (Or.inl ⟨by rfl, ?_⟩) (by assumption) ?_; rotate_left; (· intro w9 hSw; (try dsimp only at hSw); go_simp; try with_reducible rfl); (try simp only [Act.put, List.setIfInBounds_toArray, List.set_cons_zero, List.set_cons_succ])
      refine WE_take 8 (v := ?_) rfl (by kernel_rfl) (fun _ _ _ h => h) (Or.inl ⟨by rfl, ?_⟩) (by assumption) ?_; rotate_left; (· intro w9 hSw; (try dsimp only at hSw); go_simp; try with_reducible rfl); (try simp only [Act.put, List.setIfInBounds_toArray, List.set_cons_zero, List.set_cons_succ])
      refine WE_take 9 (v := ?_) rfl (by kernel_rfl) (fun _ _ _ h => h) (Or.inl ⟨by rfl, ?_⟩) (by assumption) ?_; rotate_left; (· intro w9 hSw; (try dsimp only at hSw); go_simp; try with_reducible rfl); (try simp only [Act.put, List.setIfInBounds_toArray, List.set_cons_zero, List.set_cons_succ])
      refine WE_take 10 (v := ?_) rfl (by kernel_rfl) (fun _ _ _ h => h) (Or.inl ⟨by rfl, ?_⟩) (by assumption) ?_; rotate_left; (· intro w9 hSw; (try dsimp only at hSw); go_simp; try with_reducible rfl); (try simp only [Act.put, List.setIfInBounds_toArray, List.set_cons_zero, List.set_cons_succ])
      refine WE_take 11 (v := ?_) rfl (by kernel_rfl) (fun _ _ _ h => h) (Or.inl ⟨by rfl, ?_⟩) (by assumption) ?_; rotate_left; (· intro w9 hSw; (try dsimp only at hSw); go_simp; try with_reducible rfl); (try simp only [Act.put, List.setIfInBounds_toArray, List.set_cons_zero, List.set_cons_succ])
      refine WE_take 12 (v := ?_) rfl (by kernel_rfl) (fun _ _ _ h => h) (Or.inl ⟨by rfl, ?_⟩) (by assumption) ?_; rotate_left; (· intro w9 hSw; (try dsimp only at hSw); go_simp; try with_reducible rfl); (try simp only [Act.put, List.setIfInBounds_toArray, List.set_cons_zero, List.set_cons_succ])
      refine WE_take 13 (v := ?_) rfl (by kernel_rfl) (fun _ _ _ h => h) (Or.inl ⟨by rfl, ?_⟩) (by assumption) ?_; rotate_left; (· intro w9 hSw; (try dsimp only at hSw); go_simp; try with_reducible rfl); (try simp only [Act.put, List.setIfInBounds_toArray, List.set_cons_zero, List.set_cons_succ])
      refine WE_take 14 (v := ?_) rfl (by kernel_rfl) (fun _ _ _ h => h) (Or.inl ⟨by rfl, ?_⟩) (by assumption) ?_; rotate_left; (· intro w9 hSw; (try dsimp only at hSw); go_simp; try with_reducible rfl); (try simp only [Act.put, List.setIfInBounds_toArray, List.set_cons_zero, List.set_cons_succ])
      refine WE_take 15 (v := ?_) rfl (by kernel_rfl) (fun _ _ _ h => h) (Or.inl ⟨by rfl, ?_⟩) (by assumption) ?_; rotate_left; (· intro w9 hSw; (try dsimp only at hSw); go_simp; try with_reducible rfl); (try simp only [Act.put, List.setIfInBounds_toArray, List.set_cons_zero, List.set_cons_succ])
      refine WE_take 16 (v := ?_) rfl (by kernel_rfl) (fun _ _ _ h => h) (Or.inl ⟨by rfl, ?_⟩) (by assumption) ?_; rotate_left; (· intro w9 hSw; (try dsimp only at hSw); go_simp; try with_reducible rfl); (try simp only [Act.put, List.setIfInBounds_toArray, List.set_cons_zero, List.set_cons_succ])
      refine WE_take 17 (v := ?_) rfl (by kernel_rfl) (fun _ _ _ h => h) (Or.inl ⟨by rfl, ?_⟩) (by assumption) ?_; rotate_left; (· intro w9 hSw; (try dsimp only at hSw); go_simp; try with_reducible rfl); (try simp only [Act.put, List.setIfInBounds_toArray, List.set_cons_zero, List.set_cons_succ])
      refine WE_take 18 (v := ?_) rfl (by kernel_rfl) (fun _ _ _ h => h) (Or.inl ⟨by rfl, ?_⟩) (by assumption) ?_; rotate_left; (· intro w9 hSw; (try dsimp only at hSw); go_simp; try with_reducible rfl); (try simp only [Act.put, List.setIfInBounds_toArray, List.set_cons_zero, List.set_cons_succ])
      refine WE_take 19 (v := ?_) rfl (by kernel_rfl) (fun _ _ _ h => h) (Or.inl ⟨by rfl, ?_⟩) (by assumption) ?_; rotate_left; (· intro w9 hSw; (try dsimp only at hSw); go_simp; try with_reducible rfl); (try simp only [Act.put, List.setIfInBounds_toArray, List.set_cons_zero, List.set_cons_succ])
      refine WE_take 20 (v := ?_) rfl (by kernel_rfl) (fun _ _ _ h => h) (Or.inl ⟨by rfl, ?_⟩) (by assumption) ?_; rotate_left; (· intro w9 hSw; (try dsimp only at hSw); go_simp; try with_reducible rfl); (try simp only [Act.put, List.setIfInBounds_toArray, List.set_cons_zero, List.set_cons_succ])
      refine WE_take 21 (v := ?_) rfl (by kernel_rfl) (fun _ _ _ h => h) (Or.inl ⟨by rfl, ?_⟩) (by assumption) ?_; rotate_left; (· intro w9 hSw; (try dsimp only at hSw); go_simp; try with_reducible rfl); (try simp only [Act.put, List.setIfInBounds_toArray, List.set_cons_zero, List.set_cons_succ])
      refine WE_step 22 rfl (by kernel_rfl) (fun K hK => ?_)
      go_simp
      (go_at_call 58; refine (rmeetV_any uk un sk sv _).mono ?_; rintro e w5 ⟨rfl, hb5⟩)
      (try go_wp2_with fail)
      refine hK.out _ _ ?_ (fun hHeld => ?_)
      · (repeat' first | (with_reducible assumption) | (with_reducible exact SX0.init _) | (with_reducible exact SX0.refl _) | (with_reducible refine SX0.alloc ?_ _) | (with_reducible refine SX0.call ?_ (by assumption)) | (with_reducible refine SX0.set ?_ _ _ _ ?_) | (with_reducible refine SX0.drew ?_) | (simp; done) | omega | (simp; omega))
      clear hK K
      try simp only [Act.put, List.setIfInBounds_toArray, List.set_cons_zero, List.set_cons_succ]
      refine WE_take 23 (v := ?_) rfl (by kernel_rfl) (fun _ _ _ h => h) (Or.inl ⟨by rfl, ?_⟩) (by assumption) ?_; rotate_left; (· intro w9 hSw; (try dsimp only at hSw); go_simp; try with_reducible rfl); (try simp only [Act.put, List.setIfInBounds_toArray, List.set_cons_zero, List.set_cons_succ])
      refine WE_last rfl (by kernel_rfl) (fun K hK => ?_)
      go_simp
      refine hK.out _ _ ?_
      clear hK K
      have hk5 : Kept [] wr w5 := hHeld.1
      have V5 := Lib.hid (vr.out.kept hk5 (by simp))
      have hX : Hid ((fun i => if i = x then Xf.rmeetV ⟨uk, un⟩ ⟨sk, sv⟩ else metS Xf.rmeetV sd nd f j i) = metS Xf.rmeetV sd nd f (j + 1)) := by
        show _ = _
        funext i
        rw [metS, HE.out]
        dsimp only
        by_cases hi : i = x
        · subst hi; rw [if_pos rfl, if_pos ⟨HE1.out, by simp⟩, HU.out]
        · rw [if_neg hi, if_neg (fun hh => hi (by simpa using hh.2))]
      go_wp2_with fail
      exact ⟨⟨j + 1, by omega, by go_num, ((hkr.next hk5 (by simp)).set g _ _ (.inl (by simp))).set g _ _ (.inl (by simp)), Lib.hid (hX.out ▸ V5.out.put x _ hx)⟩, by simp [intOf]; omega⟩
    · have e1' : (sn == nd) = false := by simpa using e1
      have HM : Hid (metS Xf.rmeetV sd nd f (j + 1) = metS Xf.rmeetV sd nd f j) := by
        show _ = _
        funext i
        rw [metS, HE.out, if_neg (fun hh => e1 hh.1)]
      clear e1
      go_wp2_with fail
      exact ⟨⟨j + 1, by omega, by go_num, hkr, Lib.hid (by rw [HM.out]; exact vr.out)⟩, by simp [intOf]; omega⟩
end Go.Proofs.YtmjebjjhfoncfaaDoor
