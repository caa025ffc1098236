/- Texts: Pk Pl Rh. -/
import Derived.Test.YtooejoajojanjaaGreatDoorSx10
import Derived.Test.YtooejoajojanjaaGreatDoorSx03
import Derived.Test.YtooejoajojanjaaGreatDoorSx05
import Derived.Test.YtooejoajojanjaaGreatDoorSx11
namespace Go.Proofs.YtooejoajojanjaaGreatDoor
open Go.RowKit Go.Df Go.Df.If
attribute [local go_sem ↓] Go.wp_at_zero Go.wp_at_succ
theorem txS_len {u : Su} (hf : 0 ≤ u.f ∧ u.f < 256) (hx : lsErr 1024 u.x = 0) (hy : lsErr 1024 u.y = 0) : (txS u).length ≤ 2000000 := by
  have h0 := flat_len (w := kwE) (F := 1024) (by omega) (by decide) (l := u.x) (fun p hp => ls_rng hx hp)
  have h1 := flat_len (w := kwT) (F := 1024) (by omega) (by decide) (l := u.y) (fun p hp => ls_rng hy hp)
  have h2 := (ls_ok.1 hx).1
  have h3 := (ls_ok.1 hy).1
  have h9 := itoa_len (n := u.f) (by omega) (by omega)
  have h4 : (ln1 kwF u.f).length ≤ 20 := by
    unfold ln1 kwF
    simp
    omega
  unfold txS
  rw [List.length_append, List.length_append]
  omega
theorem fn_rng {L : List Su} {i : Nat} (h : fnErr L i = 0) : 0 ≤ (gS L i).f ∧ (gS L i).f < 256 := by
  unfold fnErr at h
  split at h
  · cases h
  · omega
theorem txt_len {L : List Su} (h : sumErr 1024 L = 0) : ∀ i, i ≤ L.length → (txt (L.take i)).length ≤ i * 2000000
  | 0, _ => by simp [txt]
  | i + 1, hi => by
    have h1 := txt_len h i (by omega)
    have h2 := (sum_ok.1 h).2.2 i (by omega)
    have h3 := txS_len (fn_rng h2.1) h2.2.1 h2.2.2
    rw [txt_take (by omega), List.length_append]
    omega
set_option maxRecDepth 100000 in
set_option maxHeartbeats 8000000 in
theorem rtext_any (A : Option Addr) (n c : Nat) (L : List Su) (w : World) (hS : SmW w A n L) (hok : sumErr 1024 L = 0) :
    Calls Tryz.prog 45 #[.slice A n c] w fun e w' => e = .returned (.string ⟨(txt L).toArray⟩) ∧ Below w.heap.size w w' := by
  have HS := Lib.hid hS
  have HOK := Lib.hid (sum_ok.1 hok)
  have HTL := Lib.hid (txt_len hok)
  have HLN := Lib.hid hS.len
  have hn256 : n ≤ 256 := by have h1 := HOK.out.2.1; have h2 := HLN.out; omega
  clear hS hok
  go_enter Tryz.func45, Tryz.ntmps45
  go_wp2_with fail
  go_loopw [3, 4] (fun s3 s4 wr => ∃ i : Nat, i ≤ n ∧ s4 = .int .i64 i ∧ s3 = .string ⟨(txt (L.take i)).toArray⟩ ∧ Hid (Kept [] w wr)) (fun _ s4 _ => n - (intOf s4).toNat)
  case atStart => exact ⟨0, Nat.zero_le _, rfl, rfl, Lib.hid (Kept.refl _ _)⟩
  case round =>
  obtain ⟨i, hi, rfl, rfl, HKR⟩ := hrel
  by_cases hlt : i < n
  case neg =>
    obtain rfl : i = n := by omega
    have HTK : Hid (L.take i = L) := Lib.hid (List.take_of_length_le (by rw [HLN.out]; exact Nat.le_refl _))
    go_wp2_with fail
    go_ret
    exact ⟨by rw [HTK.out]; rfl, HKR.out.toBelow⟩
  obtain ⟨bL, oL, rfl, hl, hc⟩ := (HS.out.later HKR.out.toBelow).mem (by omega)
  obtain ⟨E, ne, ce, T, nt, ct, c0, c1, c2, hpx, hpy⟩ := hc i hlt
  have hok := HOK.out.2.2 i (by rw [HLN.out]; exact hlt)
  have HTX : Hid (txt (L.take (i + 1)) = txt (L.take i) ++ txS (gS L i)) := Lib.hid (txt_take (by rw [HLN.out]; exact hlt))
  have hfr := fn_rng hok.1
  obtain ⟨u, hu⟩ : ∃ u, gS L i = u := ⟨_, rfl⟩
  rw [hu] at c0 hpx hpy hok hfr HTX
  obtain ⟨f, ef⟩ := Int.eq_ofNat_of_zero_le hfr.1
  rw [ef] at c0
  have HEF := Lib.hid ef
  obtain ⟨l, hll⟩ : ∃ l, txt (L.take i) = l := ⟨_, rfl⟩
  have HLL := Lib.hid hll
  have hlb : l.length ≤ 512000000 := by
    have h1 := HTL.out i (by rw [HLN.out]; omega)
    rw [hll] at h1
    omega
  have hdb : (Lib.decDigits f).length ≤ 9 := by
    have h1 := itoa_len (n := (f : Int)) (by omega) (by omega)
    rw [itoa_nat] at h1
    exact h1
  rw [hll]
  have hc1 : ¬ (9223372036854775807 < l.length + 5) := by omega
  have hc2 : ¬ (9223372036854775807 < l.length + 5 + (Lib.decDigits f).length) := by omega
  have hc3 : ¬ (9223372036854775807 < l.length + 5 + (Lib.decDigits f).length + 1) := by omega
  have hi9 : (i : Int) < (n : Int) := by omega
  have HPX := Lib.hid hpx
  have HPY := Lib.hid hpy
  have HCK := Lib.hid hok
  have hf9 : f ≤ 9223372036854775807 := by omega
  clear hc hpx hpy hok hu hll ef hfr
  -- k5
  go_upto_region 6 with (go_at_call 74; refine (rdigits_any f _ hf9).mono ?_; rintro e w2 ⟨rfl, hb2⟩)
  -- k6
  have HK2 : Hid (Kept [] w w2) := Lib.hid (HKR.out.call hb2)
  have hk2 : Kept [] wr w2 := (Kept.refl _ _).call hb2
  have hlr := hl
  have HC1 := Lib.hid c1
  have HC2 := Lib.hid c2
  have HS0 : Hid ((⟨l.toArray⟩ : ByteArray) ++ ⟨#[102, 117, 110, 99, 32]⟩ ++ ⟨(Lib.decDigits f).toArray⟩ ++ ⟨#[10]⟩ = ⟨(l ++ exS u 0).toArray⟩) := Lib.hid (by
    rw [show (⟨#[102, 117, 110, 99, 32]⟩ : ByteArray) = ⟨([102, 117, 110, 99, 32] : List UInt8).toArray⟩ from rfl, show (⟨#[10]⟩ : ByteArray) = ⟨([10] : List UInt8).toArray⟩ from rfl, bs_app, bs_app, bs_app]
    congr 2
    unfold exS ln1 kwF
    rw [HEF.out, itoa_nat]
    simp)
  rw [HS0.out]
  have HB2C : Hid (∀ wq, Kept [] w wq → True) := Lib.hid (fun _ _ => trivial)
  clear c0 c1 c2 hc1 hc2 hc3
  go_wp2_with fail
  go_loopw [3, 5] (fun s3 s wq => ∃ j : Nat, j ≤ ne ∧ s = .int .i64 j ∧ s3 = .string ⟨(l ++ exS u j).toArray⟩ ∧ Hid (Kept [] wr wq)) (fun _ s _ => ne - (intOf s).toNat)
  case atStart => exact ⟨0, Nat.zero_le _, rfl, rfl, Lib.hid hk2⟩
  case round =>
  rename World => wq
  obtain ⟨j, hj, rfl, rfl, HKQ⟩ := hrel
  have hlq : bL < wq.heap.size := Nat.lt_of_lt_of_le hl HKQ.out.size
  have k1 := (HKQ.out.cell bL _ hl (by simp)).trans HC1.out
  by_cases hlj : j < ne
  case pos =>
    as_aux_lemma =>
      obtain ⟨bP, oP, rfl, hlP, hcP⟩ := (HPX.out.later HKQ.out.toBelow).2 (by omega)
      obtain ⟨p1, p2⟩ := hcP j hlj
      have hpr := ls_rng HCK.out.2.1 (gp_mem (l := u.x) (i := j) (by rw [HPX.out.1]; exact hlj))
      obtain ⟨a, ea⟩ := Int.eq_ofNat_of_zero_le hpr.1.1
      obtain ⟨b, eb⟩ := Int.eq_ofNat_of_zero_le hpr.2.1
      rw [ea] at p1
      rw [eb] at p2
      obtain ⟨q, hq⟩ : ∃ q, l ++ exS u j = q := ⟨_, rfl⟩
      have HQ := Lib.hid hq
      have hql : q.length ≤ 514000000 := by
        have h1 := flat_len (w := kwE) (F := 1024) (by omega) (by decide) (l := u.x.take j) (fun p hp => ls_rng HCK.out.2.1 (List.mem_of_mem_take hp))
        have h2 := List.length_take_le' j u.x
        have h3 := (ls_ok.1 HCK.out.2.1).1
        have h5 : (ln1 kwF u.f).length ≤ 20 := by
          rw [HEF.out]
          unfold ln1 kwF
          rw [itoa_nat]
          simp
          omega
        rw [← hq]
        unfold exS
        rw [List.length_append, List.length_append]
        omega
      have hda : (Lib.decDigits a).length ≤ 9 := by
        have h1 := itoa_len (n := (a : Int)) (by omega) (by omega)
        rw [itoa_nat] at h1
        exact h1
      have hdb' : (Lib.decDigits b).length ≤ 9 := by
        have h1 := itoa_len (n := (b : Int)) (by omega) (by omega)
        rw [itoa_nat] at h1
        exact h1
      rw [hq]
      have hc1 : ¬ (9223372036854775807 < q.length + 5) := by omega
      have hc2 : ¬ (9223372036854775807 < q.length + 5 + (Lib.decDigits a).length) := by omega
      have hc3 : ¬ (9223372036854775807 < q.length + 5 + (Lib.decDigits a).length + 1) := by omega
      have hc4 : ¬ (9223372036854775807 < q.length + 5 + (Lib.decDigits a).length + 1 + (Lib.decDigits b).length) := by omega
      have hc5 : ¬ (9223372036854775807 < q.length + 5 + (Lib.decDigits a).length + 1 + (Lib.decDigits b).length + 1) := by omega
      have ha9 : a ≤ 9223372036854775807 := by omega
      have hb9 : b ≤ 9223372036854775807 := by omega
      have hj9 : (j : Int) < (ne : Int) := by omega
      have hm8 : ne ≤ 8192 := by have h1 := HPX.out.1; have h2 := (ls_ok.1 HCK.out.2.1).1; omega
      have HSN : Hid ((⟨q.toArray⟩ : ByteArray) ++ ⟨#[101, 120, 105, 116, 32]⟩ ++ ⟨(Lib.decDigits a).toArray⟩ ++ ⟨#[32]⟩ ++ ⟨(Lib.decDigits b).toArray⟩ ++ ⟨#[10]⟩ = ⟨(l ++ exS u (j + 1)).toArray⟩) := Lib.hid (by
        rw [show (⟨#[101, 120, 105, 116, 32]⟩ : ByteArray) = ⟨([101, 120, 105, 116, 32] : List UInt8).toArray⟩ from rfl, show (⟨#[32]⟩ : ByteArray) = ⟨([32] : List UInt8).toArray⟩ from rfl, show (⟨#[10]⟩ : ByteArray) = ⟨([10] : List UInt8).toArray⟩ from rfl, bs_app, bs_app, bs_app, bs_app, bs_app]
        congr 2
        rw [← hq]
        unfold exS
        rw [flat_take (by rw [HPX.out.1]; exact hlj)]
        unfold ln2 kwE
        rw [ea, eb, itoa_nat, itoa_nat]
        simp)
      clear hcP hq ea eb hpr
      go_upto_region 9 with fail
      refine wp_region_E 26 (fun w' => SX0 wq w') (by kernel_rfl) (by (repeat' first | (with_reducible assumption) | (with_reducible exact SX0.init _) | (with_reducible exact SX0.refl _) | (with_reducible refine SX0.alloc ?_ _) | (with_reducible refine SX0.call ?_ (by assumption)) | (with_reducible refine SX0.set ?_ _ _ _ ?_) | (with_reducible refine SX0.drew ?_) | (simp; done) | omega | (simp; omega))) (fun hHeld => ?_)
      refine WE_take 0 (v := ?_) rfl (by kernel_rfl) (fun _ _ _ h => h) (Or.inl ⟨by rfl, ?_⟩) (by assumption) ?_; rotate_left; (· intro w9 hSw; (try dsimp only at hSw); go_simp; try with_reducible rfl); (try simp only [Act.put, List.setIfInBounds_toArray, List.set_cons_zero, List.set_cons_succ])
      refine WE_take 1 (v := ?_) rfl (by kernel_rfl) (fun _ _ _ h => h) (Or.inl ⟨by rfl, ?_⟩) (by assumption) ?_; rotate_left; (· intro w9 hSw; (try dsimp only at hSw); go_simp; try with_reducible rfl); (try simp only [Act.put, List.setIfInBounds_toArray, List.set_cons_zero, List.set_cons_succ])
      refine WE_take 2 (v := ?_) rfl (by kernel_rfl) (fun _ _ _ h => h) (Or.inl ⟨by rfl, ?_⟩) (by assumption) ?_; rotate_left; (· intro w9 hSw; (try dsimp only at hSw); go_simp; try with_reducible rfl); (try simp only [Act.put, List.setIfInBounds_toArray, List.set_cons_zero, List.set_cons_succ])
      refine WE_take 3 (v := ?_) rfl (by kernel_rfl) (fun _ _ _ h => h) (Or.inl ⟨by rfl, ?_⟩) (by assumption) ?_; rotate_left; (· intro w9 hSw; (try dsimp only at hSw); go_simp; try with_reducible rfl); (try simp only [Act.put, List.setIfInBounds_toArray, List.set_cons_zero, List.set_cons_succ])
      refine WE_take 4 (v := ?_) rfl (by kernel_rfl) (fun _ _ _ h => h) (Or.inl ⟨by rfl, ?_⟩) (by assumption) ?_; rotate_left; (· intro w9 hSw; (try dsimp only at hSw); go_simp; try with_reducible rfl); (try simp only [Act.put, List.setIfInBounds_toArray, List.set_cons_zero, List.set_cons_succ])
      refine WE_take 5 (v := ?_) rfl (by kernel_rfl) (fun _ _ _ h => h) (Or.inl ⟨by rfl, ?_⟩) (by assumption) ?_; rotate_left; (· intro w9 hSw; (try dsimp only at hSw); go_simp; try with_reducible rfl); (try simp only [Act.put, List.setIfInBounds_toArray, List.set_cons_zero, List.set_cons_succ])
      refine WE_take 6 (v := ?_) rfl (by kernel_rfl) (fun _ _ _ h => h) (Or.inl ⟨by rfl, ?_⟩) (by assumption) ?_; rotate_left; (· intro w9 hSw; (try dsimp only at hSw); go_simp; try with_reducible rfl); (try simp only [Act.put, List.setIfInBounds_toArray, List.set_cons_zero, List.set_cons_succ])
      refine WE_take 7 (v := ?_) rfl (by kernel_rfl) (fun _ _ _ h => h) (Or.inl ⟨by rfl, ?_⟩) (by assumption) ?_; rotate_left; (· intro w9 hSw; (try dsimp only at hSw); go_simp; try with_reducible rfl); (try simp only [Act.put, List.setIfInBounds_toArray, List.set_cons_zero, List.set_cons_succ])
      refine WE_take 8 (v := ?_) rfl (by kernel_rfl) (fun _ _ _ h => h) (Or.inl ⟨by rfl, ?_⟩) (by assumption) ?_; rotate_left; (· intro w9 hSw; (try dsimp only at hSw); go_simp; try with_reducible rfl); (try simp only [Act.put, List.setIfInBounds_toArray, List.set_cons_zero, List.set_cons_succ])
      refine WE_take 9 (v := ?_) rfl (by kernel_rfl) (fun _ _ _ h => h) (Or.inl ⟨by rfl, ?_⟩) (by assumption) ?_; rotate_left; (· intro w9 hSw; (try dsimp only at hSw); go_simp; try with_reducible rfl); (try simp only [Act.put, List.setIfInBounds_toArray, List.set_cons_zero, List.set_cons_succ])
      refine WE_take 10 (v := ?_) rfl (by kernel_rfl) (fun _ _ _ h => h) (Or.inl ⟨by rfl, ?_⟩) (by assumption) ?_; rotate_left; (· intro w9 hSw; (try dsimp only at hSw); go_simp; try with_reducible rfl); (try simp only [Act.put, List.setIfInBounds_toArray, List.set_cons_zero, List.set_cons_succ])
      refine WE_take 14 (v := ?_) rfl (by kernel_rfl) (fun _ _ _ h => h) (Or.inl ⟨by rfl, ?_⟩) (by assumption) ?_; rotate_left; (· intro w9 hSw; (try dsimp only at hSw); go_simp; try with_reducible rfl); (try simp only [Act.put, List.setIfInBounds_toArray, List.set_cons_zero, List.set_cons_succ])
      refine WE_take 15 (v := ?_) rfl (by kernel_rfl) (fun _ _ _ h => h) (Or.inl ⟨by rfl, ?_⟩) (by assumption) ?_; rotate_left; (· intro w9 hSw; (try dsimp only at hSw); go_simp; try with_reducible rfl); (try simp only [Act.put, List.setIfInBounds_toArray, List.set_cons_zero, List.set_cons_succ])
      refine WE_take 16 (v := ?_) rfl (by kernel_rfl) (fun _ _ _ h => h) (Or.inl ⟨by rfl, ?_⟩) (by assumption) ?_; rotate_left; (· intro w9 hSw; (try dsimp only at hSw); go_simp; try with_reducible rfl); (try simp only [Act.put, List.setIfInBounds_toArray, List.set_cons_zero, List.set_cons_succ])
      refine WE_take 17 (v := ?_) rfl (by kernel_rfl) (fun _ _ _ h => h) (Or.inl ⟨by rfl, ?_⟩) (by assumption) ?_; rotate_left; (· intro w9 hSw; (try dsimp only at hSw); go_simp; try with_reducible rfl); (try simp only [Act.put, List.setIfInBounds_toArray, List.set_cons_zero, List.set_cons_succ])
      refine WE_take 18 (v := ?_) rfl (by kernel_rfl) (fun _ _ _ h => h) (Or.inl ⟨by rfl, ?_⟩) (by assumption) ?_; rotate_left; (· intro w9 hSw; (try dsimp only at hSw); go_simp; try with_reducible rfl); (try simp only [Act.put, List.setIfInBounds_toArray, List.set_cons_zero, List.set_cons_succ])
      refine WE_take 19 (v := ?_) rfl (by kernel_rfl) (fun _ _ _ h => h) (Or.inl ⟨by rfl, ?_⟩) (by assumption) ?_; rotate_left; (· intro w9 hSw; (try dsimp only at hSw); go_simp; try with_reducible rfl); (try simp only [Act.put, List.setIfInBounds_toArray, List.set_cons_zero, List.set_cons_succ])
      refine WE_take 20 (v := ?_) rfl (by kernel_rfl) (fun _ _ _ h => h) (Or.inl ⟨by rfl, ?_⟩) (by assumption) ?_; rotate_left; (· intro w9 hSw; (try dsimp only at hSw); go_simp; try with_reducible rfl); (try simp only [Act.put, List.setIfInBounds_toArray, List.set_cons_zero, List.set_cons_succ])
      refine WE_take 21 (v := ?_) rfl (by kernel_rfl) (fun _ _ _ h => h) (Or.inl ⟨by rfl, ?_⟩) (by assumption) ?_; rotate_left; (· intro w9 hSw; (try dsimp only at hSw); go_simp; try with_reducible rfl); (try simp only [Act.put, List.setIfInBounds_toArray, List.set_cons_zero, List.set_cons_succ])
      refine WE_take 22 (v := ?_) rfl (by kernel_rfl) (fun _ _ _ h => h) (Or.inl ⟨by rfl, ?_⟩) (by assumption) ?_; rotate_left; (· intro w9 hSw; (try dsimp only at hSw); go_simp; try with_reducible rfl); (try simp only [Act.put, List.setIfInBounds_toArray, List.set_cons_zero, List.set_cons_succ])
      refine WE_step 11 rfl (by kernel_rfl) (fun K hK => ?_)
      go_simp
      (first | (go_at_call 74; with_reducible refine (rdigits_any a _ ha9).mono ?_; rintro e w4 ⟨rfl, hb4⟩) | (go_at_call 74; with_reducible refine (rdigits_any b _ hb9).mono ?_; rintro e w5 ⟨rfl, hb5⟩))
      (try go_wp2_with fail)
      refine hK.out _ _ ?_ (fun hHeld => ?_)
      · (repeat' first | (with_reducible assumption) | (with_reducible exact SX0.init _) | (with_reducible exact SX0.refl _) | (with_reducible refine SX0.alloc ?_ _) | (with_reducible refine SX0.call ?_ (by assumption)) | (with_reducible refine SX0.set ?_ _ _ _ ?_) | (with_reducible refine SX0.drew ?_) | (simp; done) | omega | (simp; omega))
      clear hK K
      try simp only [Act.put, List.setIfInBounds_toArray, List.set_cons_zero, List.set_cons_succ]
      refine WE_take 12 (v := ?_) rfl (by kernel_rfl) (fun _ _ _ h => h) (Or.inl ⟨by rfl, ?_⟩) (by assumption) ?_; rotate_left; (· intro w9 hSw; (try dsimp only at hSw); go_simp; try with_reducible rfl); (try simp only [Act.put, List.setIfInBounds_toArray, List.set_cons_zero, List.set_cons_succ])
      refine WE_take 13 (v := ?_) rfl (by kernel_rfl) (fun _ _ _ h => h) (Or.inl ⟨by rfl, ?_⟩) (by assumption) ?_; rotate_left; (· intro w9 hSw; (try dsimp only at hSw); go_simp; try with_reducible rfl); (try simp only [Act.put, List.setIfInBounds_toArray, List.set_cons_zero, List.set_cons_succ])
      refine WE_step 23 rfl (by kernel_rfl) (fun K hK => ?_)
      go_simp
      (first | (go_at_call 74; with_reducible refine (rdigits_any a _ ha9).mono ?_; rintro e w4 ⟨rfl, hb4⟩) | (go_at_call 74; with_reducible refine (rdigits_any b _ hb9).mono ?_; rintro e w5 ⟨rfl, hb5⟩))
      (try go_wp2_with fail)
      refine hK.out _ _ ?_ (fun hHeld => ?_)
      · (repeat' first | (with_reducible assumption) | (with_reducible exact SX0.init _) | (with_reducible exact SX0.refl _) | (with_reducible refine SX0.alloc ?_ _) | (with_reducible refine SX0.call ?_ (by assumption)) | (with_reducible refine SX0.set ?_ _ _ _ ?_) | (with_reducible refine SX0.drew ?_) | (simp; done) | omega | (simp; omega))
      clear hK K
      try simp only [Act.put, List.setIfInBounds_toArray, List.set_cons_zero, List.set_cons_succ]
      refine WE_take 24 (v := ?_) rfl (by kernel_rfl) (fun _ _ _ h => h) (Or.inl ⟨by rfl, ?_⟩) (by assumption) ?_; rotate_left; (· intro w9 hSw; (try dsimp only at hSw); go_simp; try with_reducible rfl); (try simp only [Act.put, List.setIfInBounds_toArray, List.set_cons_zero, List.set_cons_succ])
      refine WE_take 25 (v := ?_) rfl (by kernel_rfl) (fun _ _ _ h => h) (Or.inl ⟨by rfl, ?_⟩) (by assumption) ?_; rotate_left; (· intro w9 hSw; (try dsimp only at hSw); go_simp; try with_reducible rfl); (try simp only [Act.put, List.setIfInBounds_toArray, List.set_cons_zero, List.set_cons_succ])
      refine WE_last rfl (by kernel_rfl) (fun K hK => ?_)
      go_simp
      refine hK.out _ _ ?_
      clear hK K
      rw [HSN.out]
      have hk9 : Kept [] wq w5 := hHeld.1
      go_wp2_with fail
      exact ⟨⟨j + 1, by omega, by go_num, rfl, Lib.hid (HKQ.out.next hk9 (by simp))⟩, by simp [intOf]; omega⟩
  obtain rfl : j = ne := by omega
  have HE1 : Hid (l ++ exS u j = l ++ thS u 0) := by
    show _ = _
    have e9 : u.x.take j = u.x := List.take_of_length_le (by rw [HPX.out.1]; exact Nat.le_refl _)
    unfold exS thS
    rw [e9]
    simp
  rw [HE1.out]
  have HKM := HKQ
  have k1' := k1
  clear hlj
  go_upto_region 10 with fail
  clear k1 k1'
  go_wp2_with fail
  go_loopw [3, 6] (fun s3 s wq => ∃ j : Nat, j ≤ nt ∧ s = .int .i64 j ∧ s3 = .string ⟨(l ++ thS u j).toArray⟩ ∧ Hid (Kept [] wr wq)) (fun _ s _ => nt - (intOf s).toNat)
  case atStart => exact ⟨0, Nat.zero_le _, rfl, rfl, HKM⟩
  case round =>
  rename World => wq
  obtain ⟨j, hj, rfl, rfl, HKQ⟩ := hrel
  have hlq : bL < wq.heap.size := Nat.lt_of_lt_of_le hl HKQ.out.size
  have k1 := (HKQ.out.cell bL _ hl (by simp)).trans HC2.out
  by_cases hlj : j < nt
  case pos =>
    as_aux_lemma =>
      obtain ⟨bP, oP, rfl, hlP, hcP⟩ := (HPY.out.later HKQ.out.toBelow).2 (by omega)
      obtain ⟨p1, p2⟩ := hcP j hlj
      have hpr := ls_rng HCK.out.2.2 (gp_mem (l := u.y) (i := j) (by rw [HPY.out.1]; exact hlj))
      obtain ⟨a, ea⟩ := Int.eq_ofNat_of_zero_le hpr.1.1
      obtain ⟨b, eb⟩ := Int.eq_ofNat_of_zero_le hpr.2.1
      rw [ea] at p1
      rw [eb] at p2
      obtain ⟨q, hq⟩ : ∃ q, l ++ thS u j = q := ⟨_, rfl⟩
      have HQ := Lib.hid hq
      have hql : q.length ≤ 516000000 := by
        have h0 := flat_len (w := kwE) (F := 1024) (by omega) (by decide) (l := u.x) (fun p hp => ls_rng HCK.out.2.1 hp)
        have h6 := (ls_ok.1 HCK.out.2.1).1
        have h1 := flat_len (w := kwT) (F := 1024) (by omega) (by decide) (l := u.y.take j) (fun p hp => ls_rng HCK.out.2.2 (List.mem_of_mem_take hp))
        have h2 := List.length_take_le' j u.y
        have h3 := (ls_ok.1 HCK.out.2.2).1
        have h5 : (ln1 kwF u.f).length ≤ 20 := by
          rw [HEF.out]
          unfold ln1 kwF
          rw [itoa_nat]
          simp
          omega
        rw [← hq]
        unfold thS
        rw [List.length_append, List.length_append, List.length_append]
        omega
      have hda : (Lib.decDigits a).length ≤ 9 := by
        have h1 := itoa_len (n := (a : Int)) (by omega) (by omega)
        rw [itoa_nat] at h1
        exact h1
      have hdb' : (Lib.decDigits b).length ≤ 9 := by
        have h1 := itoa_len (n := (b : Int)) (by omega) (by omega)
        rw [itoa_nat] at h1
        exact h1
      rw [hq]
      have hc1 : ¬ (9223372036854775807 < q.length + 6) := by omega
      have hc2 : ¬ (9223372036854775807 < q.length + 6 + (Lib.decDigits a).length) := by omega
      have hc3 : ¬ (9223372036854775807 < q.length + 6 + (Lib.decDigits a).length + 1) := by omega
      have hc4 : ¬ (9223372036854775807 < q.length + 6 + (Lib.decDigits a).length + 1 + (Lib.decDigits b).length) := by omega
      have hc5 : ¬ (9223372036854775807 < q.length + 6 + (Lib.decDigits a).length + 1 + (Lib.decDigits b).length + 1) := by omega
      have ha9 : a ≤ 9223372036854775807 := by omega
      have hb9 : b ≤ 9223372036854775807 := by omega
      have hj9 : (j : Int) < (nt : Int) := by omega
      have hm8 : nt ≤ 8192 := by have h1 := HPY.out.1; have h2 := (ls_ok.1 HCK.out.2.2).1; omega
      have HSN : Hid ((⟨q.toArray⟩ : ByteArray) ++ ⟨#[116, 104, 114, 111, 119, 32]⟩ ++ ⟨(Lib.decDigits a).toArray⟩ ++ ⟨#[32]⟩ ++ ⟨(Lib.decDigits b).toArray⟩ ++ ⟨#[10]⟩ = ⟨(l ++ thS u (j + 1)).toArray⟩) := Lib.hid (by
        rw [show (⟨#[116, 104, 114, 111, 119, 32]⟩ : ByteArray) = ⟨([116, 104, 114, 111, 119, 32] : List UInt8).toArray⟩ from rfl, show (⟨#[32]⟩ : ByteArray) = ⟨([32] : List UInt8).toArray⟩ from rfl, show (⟨#[10]⟩ : ByteArray) = ⟨([10] : List UInt8).toArray⟩ from rfl, bs_app, bs_app, bs_app, bs_app, bs_app]
        congr 2
        rw [← hq]
        unfold thS
        rw [flat_take (by rw [HPY.out.1]; exact hlj)]
        unfold ln2 kwT
        rw [ea, eb, itoa_nat, itoa_nat]
        simp)
      clear hcP hq ea eb hpr
      go_upto_region 13 with fail
      refine wp_region_E 26 (fun w' => SX0 wq w') (by kernel_rfl) (by (repeat' first | (with_reducible assumption) | (with_reducible exact SX0.init _) | (with_reducible exact SX0.refl _) | (with_reducible refine SX0.alloc ?_ _) | (with_reducible refine SX0.call ?_ (by assumption)) | (with_reducible refine SX0.set ?_ _ _ _ ?_) | (with_reducible refine SX0.drew ?_) | (simp; done) | omega | (simp; omega))) (fun hHeld => ?_)
      refine WE_take 0 (v := ?_) rfl (by kernel_rfl) (fun _ _ _ h => h) (Or.inl ⟨by rfl, ?_⟩) (by assumption) ?_; rotate_left; (· intro w9 hSw; (try dsimp only at hSw); go_simp; try with_reducible rfl); (try simp only [Act.put, List.setIfInBounds_toArray, List.set_cons_zero, List.set_cons_succ])
      refine WE_take 1 (v := ?_) rfl (by kernel_rfl) (fun _ _ _ h => h) (Or.inl ⟨by rfl, ?_⟩) (by assumption) ?_; rotate_left; (· intro w9 hSw; (try dsimp only at hSw); go_simp; try with_reducible rfl); (try simp only [Act.put, List.setIfInBounds_toArray, List.set_cons_zero, List.set_cons_succ])
      refine WE_take 2 (v := ?_) rfl (by kernel_rfl) (fun _ _ _ h => h) (Or.inl ⟨by rfl, ?_⟩) (by assumption) ?_; rotate_left; (· intro w9 hSw; (try dsimp only at hSw); go_simp; try with_reducible rfl); (try simp only [Act.put, List.setIfInBounds_toArray, List.set_cons_zero, List.set_cons_succ])
      refine WE_take 3 (v := ?_) rfl (by kernel_rfl) (fun _ _ _ h => h) (Or.inl ⟨by rfl, ?_⟩) (by assumption) ?_; rotate_left; (· intro w9 hSw; (try dsimp only at hSw); go_simp; try with_reducible rfl); (try simp only [Act.put, List.setIfInBounds_toArray, List.set_cons_zero, List.set_cons_succ])
      refine WE_take 4 (v := ?_) rfl (by kernel_rfl) (fun _ _ _ h => h) (Or.inl ⟨by rfl, ?_⟩) (by assumption) ?_; rotate_left; (· intro w9 hSw; (try dsimp only at hSw); go_simp; try with_reducible rfl); (try simp only [Act.put, List.setIfInBounds_toArray, List.set_cons_zero, List.set_cons_succ])
      refine WE_take 5 (v := ?_) rfl (by kernel_rfl) (fun _ _ _ h => h) (Or.inl ⟨by rfl, ?_⟩) (by assumption) ?_; rotate_left; (· intro w9 hSw; (try dsimp only at hSw); go_simp; try with_reducible rfl); (try simp only [Act.put, List.setIfInBounds_toArray, List.set_cons_zero, List.set_cons_succ])
      refine WE_take 6 (v := ?_) rfl (by kernel_rfl) (fun _ _ _ h => h) (Or.inl ⟨by rfl, ?_⟩) (by assumption) ?_; rotate_left; (· intro w9 hSw; (try dsimp only at hSw); go_simp; try with_reducible rfl); (try simp only [Act.put, List.setIfInBounds_toArray, List.set_cons_zero, List.set_cons_succ])
      refine WE_take 7 (v := ?_) rfl (by kernel_rfl) (fun _ _ _ h => h) (Or.inl ⟨by rfl, ?_⟩) (by assumption) ?_; rotate_left; (· intro w9 hSw; (try dsimp only at hSw); go_simp; try with_reducible rfl); (try simp only [Act.put, List.setIfInBounds_toArray, List.set_cons_zero, List.set_cons_succ])
      refine WE_take 8 (v := ?_) rfl (by kernel_rfl) (fun _ _ _ h => h) (Or.inl ⟨by rfl, ?_⟩) (by assumption) ?_; rotate_left; (· intro w9 hSw; (try dsimp only at hSw); go_simp; try with_reducible rfl); (try simp only [Act.put, List.setIfInBounds_toArray, List.set_cons_zero, List.set_cons_succ])
      refine WE_take 9 (v := ?_) rfl (by kernel_rfl) (fun _ _ _ h => h) (Or.inl ⟨by rfl, ?_⟩) (by assumption) ?_; rotate_left; (· intro w9 hSw; (try dsimp only at hSw); go_simp; try with_reducible rfl); (try simp only [Act.put, List.setIfInBounds_toArray, List.set_cons_zero, List.set_cons_succ])
      refine WE_take 10 (v := ?_) rfl (by kernel_rfl) (fun _ _ _ h => h) (Or.inl ⟨by rfl, ?_⟩) (by assumption) ?_; rotate_left; (· intro w9 hSw; (try dsimp only at hSw); go_simp; try with_reducible rfl); (try simp only [Act.put, List.setIfInBounds_toArray, List.set_cons_zero, List.set_cons_succ])
      refine WE_take 14 (v := ?_) rfl (by kernel_rfl) (fun _ _ _ h => h) (Or.inl ⟨by rfl, ?_⟩) (by assumption) ?_; rotate_left; (· intro w9 hSw; (try dsimp only at hSw); go_simp; try with_reducible rfl); (try simp only [Act.put, List.setIfInBounds_toArray, List.set_cons_zero, List.set_cons_succ])
      refine WE_take 15 (v := ?_) rfl (by kernel_rfl) (fun _ _ _ h => h) (Or.inl ⟨by rfl, ?_⟩) (by assumption) ?_; rotate_left; (· intro w9 hSw; (try dsimp only at hSw); go_simp; try with_reducible rfl); (try simp only [Act.put, List.setIfInBounds_toArray, List.set_cons_zero, List.set_cons_succ])
      refine WE_take 16 (v := ?_) rfl (by kernel_rfl) (fun _ _ _ h => h) (Or.inl ⟨by rfl, ?_⟩) (by assumption) ?_; rotate_left; (· intro w9 hSw; (try dsimp only at hSw); go_simp; try with_reducible rfl); (try simp only [Act.put, List.setIfInBounds_toArray, List.set_cons_zero, List.set_cons_succ])
      refine WE_take 17 (v := ?_) rfl (by kernel_rfl) (fun _ _ _ h => h) (Or.inl ⟨by rfl, ?_⟩) (by assumption) ?_; rotate_left; (· intro w9 hSw; (try dsimp only at hSw); go_simp; try with_reducible rfl); (try simp only [Act.put, List.setIfInBounds_toArray, List.set_cons_zero, List.set_cons_succ])
      refine WE_take 18 (v := ?_) rfl (by kernel_rfl) (fun _ _ _ h => h) (Or.inl ⟨by rfl, ?_⟩) (by assumption) ?_; rotate_left; (· intro w9 hSw; (try dsimp only at hSw); go_simp; try with_reducible rfl); (try simp only [Act.put, List.setIfInBounds_toArray, List.set_cons_zero, List.set_cons_succ])
      refine WE_take 19 (v := ?_) rfl (by kernel_rfl) (fun _ _ _ h => h) (Or.inl ⟨by rfl, ?_⟩) (by assumption) ?_; rotate_left; (· intro w9 hSw; (try dsimp only at hSw); go_simp; try with_reducible rfl); (try simp only [Act.put, List.setIfInBounds_toArray, List.set_cons_zero, List.set_cons_succ])
      refine WE_take 20 (v := ?_) rfl (by kernel_rfl) (fun _ _ _ h => h) (Or.inl ⟨by rfl, ?_⟩) (by assumption) ?_; rotate_left; (· intro w9 hSw; (try dsimp only at hSw); go_simp; try with_reducible rfl); (try simp only [Act.put, List.setIfInBounds_toArray, List.set_cons_zero, List.set_cons_succ])
      refine WE_take 21 (v := ?_) rfl (by kernel_rfl) (fun _ _ _ h => h) (Or.inl ⟨by rfl, ?_⟩) (by assumption) ?_; rotate_left; (· intro w9 hSw; (try dsimp only at hSw); go_simp; try with_reducible rfl); (try simp only [Act.put, List.setIfInBounds_toArray, List.set_cons_zero, List.set_cons_succ])
      refine WE_take 22 (v := ?_) rfl (by kernel_rfl) (fun _ _ _ h => h) (Or.inl ⟨by rfl, ?_⟩) (by assumption) ?_; rotate_left; (· intro w9 hSw; (try dsimp only at hSw); go_simp; try with_reducible rfl); (try simp only [Act.put, List.setIfInBounds_toArray, List.set_cons_zero, List.set_cons_succ])
      refine WE_step 11 rfl (by kernel_rfl) (fun K hK => ?_)
      go_simp
      (first | (go_at_call 74; with_reducible refine (rdigits_any a _ ha9).mono ?_; rintro e w4 ⟨rfl, hb4⟩) | (go_at_call 74; with_reducible refine (rdigits_any b _ hb9).mono ?_; rintro e w5 ⟨rfl, hb5⟩))
      (try go_wp2_with fail)
      refine hK.out _ _ ?_ (fun hHeld => ?_)
      · (repeat' first | (with_reducible assumption) | (with_reducible exact SX0.init _) | (with_reducible exact SX0.refl _) | (with_reducible refine SX0.alloc ?_ _) | (with_reducible refine SX0.call ?_ (by assumption)) | (with_reducible refine SX0.set ?_ _ _ _ ?_) | (with_reducible refine SX0.drew ?_) | (simp; done) | omega | (simp; omega))
      clear hK K
      try simp only [Act.put, List.setIfInBounds_toArray, List.set_cons_zero, List.set_cons_succ]
      refine WE_take 12 (v := ?_) rfl (by kernel_rfl) (fun _ _ _ h => h) (Or.inl ⟨by rfl, ?_⟩) (by assumption) ?_; rotate_left; (· intro w9 hSw; (try dsimp only at hSw); go_simp; try with_reducible rfl); (try simp only [Act.put, List.setIfInBounds_toArray, List.set_cons_zero, List.set_cons_succ])
      refine WE_take 13 (v := ?_) rfl (by kernel_rfl) (fun _ _ _ h => h) (Or.inl ⟨by rfl, ?_⟩) (by assumption) ?_; rotate_left; (· intro w9 hSw; (try dsimp only at hSw); go_simp; try with_reducible rfl); (try simp only [Act.put, List.setIfInBounds_toArray, List.set_cons_zero, List.set_cons_succ])
      refine WE_step 23 rfl (by kernel_rfl) (fun K hK => ?_)
      go_simp
      (first | (go_at_call 74; with_reducible refine (rdigits_any a _ ha9).mono ?_; rintro e w4 ⟨rfl, hb4⟩) | (go_at_call 74; with_reducible refine (rdigits_any b _ hb9).mono ?_; rintro e w5 ⟨rfl, hb5⟩))
      (try go_wp2_with fail)
      refine hK.out _ _ ?_ (fun hHeld => ?_)
      · (repeat' first | (with_reducible assumption) | (with_reducible exact SX0.init _) | (with_reducible exact SX0.refl _) | (with_reducible refine SX0.alloc ?_ _) | (with_reducible refine SX0.call ?_ (by assumption)) | (with_reducible refine SX0.set ?_ _ _ _ ?_) | (with_reducible refine SX0.drew ?_) | (simp; done) | omega | (simp; omega))
      clear hK K
      try simp only [Act.put, List.setIfInBounds_toArray, List.set_cons_zero, List.set_cons_succ]
      refine WE_take 24 (v := ?_) rfl (by kernel_rfl) (fun _ _ _ h => h) (Or.inl ⟨by rfl, ?_⟩) (by assumption) ?_; rotate_left; (· intro w9 hSw; (try dsimp only at hSw); go_simp; try with_reducible rfl); (try simp only [Act.put, List.setIfInBounds_toArray, List.set_cons_zero, List.set_cons_succ])
      refine WE_take 25 (v := ?_) rfl (by kernel_rfl) (fun _ _ _ h => h) (Or.inl ⟨by rfl, ?_⟩) (by assumption) ?_; rotate_left; (· intro w9 hSw; (try dsimp only at hSw); go_simp; try with_reducible rfl); (try simp only [Act.put, List.setIfInBounds_toArray, List.set_cons_zero, List.set_cons_succ])
      refine WE_last rfl (by kernel_rfl) (fun K hK => ?_)
      go_simp
      refine hK.out _ _ ?_
      clear hK K
      rw [HSN.out]
      have hk9 : Kept [] wq w5 := hHeld.1
      go_wp2_with fail
      exact ⟨⟨j + 1, by omega, by go_num, rfl, Lib.hid (HKQ.out.next hk9 (by simp))⟩, by simp [intOf]; omega⟩
  obtain rfl : j = nt := by omega
  have HE2 : Hid (l ++ thS u j = txt (L.take (i + 1))) := by
    show _ = _
    have e9 : u.y.take j = u.y := List.take_of_length_le (by rw [HPY.out.1]; exact Nat.le_refl _)
    rw [HTX.out, HLL.out, txS]
    unfold thS
    rw [e9]
  rw [HE2.out]
  go_wp2_with fail
  exact ⟨⟨i + 1, by omega, by go_num, rfl, Lib.hid (keptTrans HKR.out HKQ.out)⟩, by simp [intOf]; omega⟩
set_option maxRecDepth 100000 in
set_option maxHeartbeats 2000000 in
theorem rText_any (A : Option Addr) (n c : Nat) (L : List Su) (w : World) (hS : SmW w A n L) :
    Calls Tryz.prog 18 #[.slice A n c] w fun e w' => e = .returned (.tuple #[.string ⟨(texS L).1.toArray⟩, .int .i64 (texS L).2]) ∧ Below w.heap.size w w' := by
  have HS := Lib.hid hS
  obtain ⟨pe, hpe⟩ : ∃ pe, sumErr 1024 L = pe := ⟨_, rfl⟩
  have HPE := Lib.hid hpe
  have HCK := Lib.hid (rsumck_any A n c L 1024 w hS)
  rw [hpe] at HCK
  clear hS hpe
  go_enter Tryz.func18, Tryz.ntmps18
  go_upto_region 2 with (go_at_call 12; refine HCK.out.mono ?_; rintro e w1 ⟨rfl, hb1⟩)
  by_cases h0 : pe = 0
  case neg =>
    have d0 : (pe != 0) = true := by simpa using h0
    have hE : Hid (texS L = ([], pe)) := by
      show _ = _
      unfold texS
      rw [HPE.out, if_pos h0]
    clear h0
    go_wp2_with fail
    go_ret2
    rw [hE.out]
    exact ⟨rfl, hb1⟩
  subst h0
  have HS1 := Lib.hid (HS.out.later hb1)
  obtain ⟨s, hs⟩ : ∃ s, txt L = s := ⟨_, rfl⟩
  obtain ⟨ln, hln⟩ : ∃ ln, s.length = ln := ⟨_, rfl⟩
  have HSS := Lib.hid hs
  have HLN := Lib.hid hln
  have HTX := Lib.hid (rtext_any A n c L w1 HS1.out HPE.out)
  rw [hs] at HTX
  by_cases hbig : 65536 < ln
  case pos =>
    have g1 : decide ((65536 : Int) < (ln : Int)) = true := by simp; omega
    have hE : Hid (texS L = ([], 3)) := by
      show _ = _
      unfold texS
      rw [HPE.out, if_neg (by simp), if_pos (by rw [HSS.out, HLN.out]; omega)]
    clear hbig hs
    go_wp2_with (go_at_call 45; refine HTX.out.mono ?_; rintro e w9 ⟨rfl, hb9⟩)
    go_ret2
    rw [hE.out]
    exact ⟨rfl, (((Kept.refl [] w).call hb1).call hb9).toBelow⟩
  case neg =>
    have g1 : decide ((65536 : Int) < (ln : Int)) = false := by simp; omega
    have hE : Hid (texS L = (s, 0)) := by
      show _ = _
      unfold texS
      rw [HPE.out, if_neg (by simp), if_neg (by rw [HSS.out, HLN.out]; omega), HSS.out]
    clear hbig hs
    go_wp2_with (go_at_call 45; refine HTX.out.mono ?_; rintro e w9 ⟨rfl, hb9⟩)
    go_ret2
    rw [hE.out]
    exact ⟨rfl, (((Kept.refl [] w).call hb1).call hb9).toBelow⟩
end Go.Proofs.YtooejoajojanjaaGreatDoor
namespace Go.Df.If
open Go.RowKit Go.Df
theorem know_txt : txt [⟨3, [⟨0, 0⟩], []⟩] = [102, 117, 110, 99, 32, 51, 10, 101, 120, 105, 116, 32, 48, 32, 48, 10] := by
  have e3 : Lib.itoa 3 = [51] := (itoa_nat 3).trans (dec_lt (by decide))
  have e0 : Lib.itoa 0 = [48] := (itoa_nat 0).trans (dec_lt (by decide))
  simp [txt, txS, ln1, ln2, e3, e0, kwF, kwE]
theorem know_tex : texS [⟨3, [⟨0, 0⟩], []⟩] = ([102, 117, 110, 99, 32, 51, 10, 101, 120, 105, 116, 32, 48, 32, 48, 10], 0) := by
  have h : sumErr 1024 [⟨3, [⟨0, 0⟩], []⟩] = 0 := by decide
  unfold texS
  rw [h, if_neg (by decide), know_txt, if_neg (by decide)]
theorem know_par : parS [101, 120, 105, 116, 32, 48, 32, 48, 10] = ([], 1, 2) := by decide
theorem prs_blk {w : World} {b : Nat} {l : List Pr} (h : Blk w b (prC l)) : Prs w (some ⟨b, 0, none⟩) l.length l :=
  ⟨rfl, fun _ => ⟨b, 0, rfl, h.1, fun i hi => by
    rw [Nat.zero_add, h.2.1, h.2.1]
    exact prC_get hi⟩⟩
theorem prs_nil (w : World) : Prs w none 0 [] := ⟨rfl, fun h => absurd h (by omega)⟩
theorem ints_blk1 {w : World} {b : Nat} {x : Int} (h : Blk w b [.int .i64 x]) : Ints w (some ⟨b, 0, none⟩) 1 [x] :=
  ⟨rfl, fun _ => ⟨b, 0, rfl, h.1, fun i hi => by
    obtain rfl : i = 0 := by omega
    exact h.2.1 0⟩⟩
theorem know_ap : applyF [⟨0, 0⟩, ⟨1, 2⟩] [1] = [2] ∧ applyF [] [1] = [] := by decide
end Go.Df.If
namespace Go.Proofs.YtooejoajojanjaaGreatDoor
open Go.RowKit Go.Df Go.Df.If
attribute [local go_sem ↓] Go.wp_at_zero Go.wp_at_succ
/-- What the variables of the library hold, now and behind every call. -/
def Env (w : World) : Prop := ∃ m, ∀ w', Below w.heap.size w w' → Lib.TabIs Tryz.prog w' "internal/strconv.uint64pow10" .u64 Lib.pow10Tab ∧ w'.cell? ⟨2, 0, none⟩ = some (.int .i64 m) ∧ w'.cell? ⟨0, 0, none⟩ = some (.iface 195 (.agg #[.pointer (some ⟨7, 79, none⟩)]))
theorem Env.later {w w' : World} (h : Env w) (hb : Below w.heap.size w w') : Env w' := let ⟨m, h⟩ := h; ⟨m, fun w2 h2 => h w2 (hb.trans (h2.mono hb.size))⟩
theorem Env.tabs {w : World} (h : Env w) : ∀ B w', B = w.heap.size → Below B w w' → Tabs B w' := fun B w' e hb w2 h2 => by subst e; let ⟨_, h⟩ := h; exact (h w2 (hb.trans h2)).1
theorem Env.mx {w : World} (h : Env w) : Mx w.heap.size w := let ⟨m, h⟩ := h; ⟨m, fun w2 h2 => (h w2 h2).2.1⟩
theorem Env.et {w : World} (h : Env w) : w.cell? ⟨0, 0, none⟩ = some (.iface 195 (.agg #[.pointer (some ⟨7, 79, none⟩)])) := let ⟨_, h⟩ := h; (h w (Below.refl _ _)).2.2
set_option maxRecDepth 100000 in
set_option maxHeartbeats 4000000 in
theorem knows35_any (w : World) (hE : Env w) : Calls Tryz.prog 13 #[] w fun e w' => e = .returned (.bool true) ∧ Below w.heap.size w w' := by
  have HE := Lib.hid hE
  clear hE
  go_enter Tryz.func13, Tryz.ntmps13
  go_wp2_with fail
  -- MARK1
  have B1 : Blk ((w.alloc (.cells #[.int .i64 0, .int .i64 0] 72)).alloc (.cells #[.int .i64 3, .slice (some ⟨w.heap.size, 0, none⟩) 1 1, .slice none 0 0] 30)) w.heap.size (prC [⟨0, 0⟩]) := (Blk.new w _ _ _ rfl).alloc _
  have B2 : Blk ((w.alloc (.cells #[.int .i64 0, .int .i64 0] 72)).alloc (.cells #[.int .i64 3, .slice (some ⟨w.heap.size, 0, none⟩) 1 1, .slice none 0 0] 30)) (w.heap.size + 1) [.int .i64 3, .slice (some ⟨w.heap.size, 0, none⟩) 1 1, .slice none 0 0] := Blk.new (w.alloc _) _ _ _ (by simp)
  have hk0 : Kept [] w ((w.alloc (.cells #[.int .i64 0, .int .i64 0] 72)).alloc (.cells #[.int .i64 3, .slice (some ⟨w.heap.size, 0, none⟩) 1 1, .slice none 0 0] 30)) := ((Kept.refl [] w).alloc _).alloc _
  have hSm : SmW ((w.alloc (.cells #[.int .i64 0, .int .i64 0] 72)).alloc (.cells #[.int .i64 3, .slice (some ⟨w.heap.size, 0, none⟩) 1 1, .slice none 0 0] 30)) (some ⟨w.heap.size + 1, 0, none⟩) 1 [⟨3, [⟨0, 0⟩], []⟩] :=
    ⟨rfl, fun _ => ⟨_, 0, rfl, B2.1, fun i hi => by
      obtain rfl : i = 0 := by omega
      exact ⟨some ⟨w.heap.size, 0, none⟩, 1, 1, none, 0, 0, B2.2.1 0, B2.2.1 1, B2.2.1 2, prs_blk B1, prs_nil _⟩⟩⟩
  have HT := Lib.hid (ptext_any (some ⟨w.heap.size + 1, 0, none⟩) 1 1 [⟨3, [⟨0, 0⟩], []⟩] _ hSm (by omega) (HE.out.later hk0.toBelow).tabs)
  rw [know_tex] at HT
  refine HT.out.mono ?_
  rintro e w1 ⟨rfl, hb1⟩
  have hk1 : Kept [] w w1 := hk0.call hb1
  have HE1 := Lib.hid (HE.out.later hk1.toBelow)
  clear B1 B2 hSm HT hk0 hb1
  go_wp2_with fail
  -- MARK2
  have HP := Lib.hid (pParse_any [101, 120, 105, 116, 32, 48, 32, 48, 10] w1 (by simp) HE1.out.mx HE1.out.et)
  rw [know_par] at HP
  refine HP.out.mono ?_
  rintro e w2 ⟨A2, n2, c2, rfl, -, hb2⟩
  have hk2 : Kept [] w w2 := hk1.call hb2
  clear hk1 hb2 HP HE1
  go_wp2_with fail
  -- MARK3
  have B1 : Blk ((w2.alloc (.cells #[.int .i64 0, .int .i64 0, .int .i64 1, .int .i64 2] 72)).alloc (.cells #[.int .i64 1] 3)) w2.heap.size (prC [⟨0, 0⟩, ⟨1, 2⟩]) := (Blk.new w2 _ _ _ rfl).alloc _
  have B2 : Blk ((w2.alloc (.cells #[.int .i64 0, .int .i64 0, .int .i64 1, .int .i64 2] 72)).alloc (.cells #[.int .i64 1] 3)) (w2.heap.size + 1) [.int .i64 1] := Blk.new (w2.alloc _) _ _ _ (by simp)
  have hk3 : Kept [] w ((w2.alloc (.cells #[.int .i64 0, .int .i64 0, .int .i64 1, .int .i64 2] 72)).alloc (.cells #[.int .i64 1] 3)) := (hk2.alloc _).alloc _
  have HA := Lib.hid (pap_any (some ⟨w2.heap.size, 0, none⟩) none (some ⟨w2.heap.size + 1, 0, none⟩) 2 2 0 0 1 1 0 [⟨0, 0⟩, ⟨1, 2⟩] [] [1] _ (prs_blk B1) (prs_nil _) (ints_blk1 B2) (by omega) (by omega) (by omega) (by decide) (by decide) (by decide))
  rw [know_ap.1, know_ap.2] at HA
  refine HA.out.mono ?_
  rintro e w3 ⟨A3, n3, c3, A4, n4, c4, rfl, hi3, hi4, hb3⟩
  obtain rfl : n3 = 1 := hi3.1.symm
  obtain rfl : n4 = 0 := hi4.1.symm
  obtain ⟨b, o, rfl, hl, hc⟩ := hi3.2 (by omega)
  have c0 : w3.cell? ⟨b, o, none⟩ = some (.int .i64 2) := hc 0 (by omega)
  have HK4 : Hid (Kept [] w w3) := Lib.hid (hk3.call hb3)
  clear hi3 hi4 hc B1 B2 hk2 hk3 hb3 HA HE
  go_wp2_with fail
  go_ret
  exact ⟨rfl, HK4.out.toBelow⟩
end Go.Proofs.YtooejoajojanjaaGreatDoor
