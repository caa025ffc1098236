/- The reference's Reached: the nodes that valid paths reach. -/
import Derived.Test.YtffkikhknabddaaUn
namespace Go.Df
open Go.RowKit
namespace Rc
open Sp If
theorem GdR.keptX {X : List Nat} {w w' : World} {g N : Nat} {bs : Nat → Nat} {e : Nat → Nat → Bool} (h : GdR w g N bs e) (hk : Kept X w w') (hX : ∀ x ∈ X, w.heap.size ≤ x) : GdR w' g N bs e := by
  have hn : ∀ x, x < w.heap.size → x ∉ X := fun x hx hm => by have := hX x hm; omega
  exact ⟨Nat.lt_of_lt_of_le h.1 hk.size, fun i hi => ⟨(hk.cell g i h.1 (hn _ h.1)).trans (h.2 i hi).1, Nat.lt_of_lt_of_le (h.2 i hi).2.1 hk.size, fun j hj => (hk.cell (bs i) j (h.2 i hi).2.1 (hn _ (h.2 i hi).2.1)).trans ((h.2 i hi).2.2 j hj)⟩⟩
/-- A row of truths that may be written. -/
def BoA (w : World) (g n : Nat) (f : Nat → Bool) : Prop := g < w.heap.size ∧ (∀ i, i < n → w.cell? ⟨g, i, none⟩ = some (.bool (f i))) ∧ ∀ i, w.frozen? ⟨g, i, none⟩ = false
theorem BoA.set {w : World} {g n : Nat} {f f' : Nat → Bool} (h : BoA w g n f) (i : Nat) (y : Bool) (hf : ∀ x, x < n → f' x = if x = i then y else f x) : BoA (w.setCell ⟨g, i, none⟩ (.bool y)) g n f' := by
  refine ⟨by simpa [World.setCell] using h.1, fun x hx => ?_, fun x => by simpa using h.2.2 x⟩
  rw [hf x hx]
  by_cases e : x = i
  · subst e; rw [if_pos rfl]; exact set_same (h.2.1 x hx)
  · rw [if_neg e, set_other (.inr (fun e2 => e e2.symm))]; exact h.2.1 x hx
theorem BoA.of {w : World} {g n : Nat} {f : Nat → Bool} {MB : Array Value} {t : TypeId} (h : w.heap[g]? = some (.cells MB t (0, 0))) (hM : ∀ i, i < n → MB[i]? = some (.bool (f i))) : BoA w g n f :=
  ⟨(Array.getElem?_eq_some_iff.1 h).1, fun i hi => by simp [World.cell?, h, hM i hi], fun i => by simp [World.frozen?, h]⟩
theorem BoA.ext {w : World} {g n : Nat} {f f' : Nat → Bool} (h : BoA w g n f) (hf : ∀ x, x < n → f' x = f x) : BoA w g n f' := ⟨h.1, fun i hi => by rw [hf i hi]; exact h.2.1 i hi, h.2.2⟩
end Rc
end Go.Df
namespace Go.Proofs.Ytffkikhknabddaa
open Go.RowKit Go.Df Go.Df.If Go.Df.Rc
attribute [local go_sem ↓] Go.wp_at_zero Go.wp_at_succ

set_option maxRecDepth 100000 in
set_option maxHeartbeats 20000000 in
theorem rreached_any (A1 A2 : Option Addr) (n1 c1 n2 c2 : Nat) (mn : Int) (ns : List Sp.Nd) (es : List Sp.Ed) (w : World) (hg : Gr w A1 n1 A2 n2 ns es) :
    Calls Try.prog 17 #[.agg #[.slice A1 n1 c1, .slice A2 n2 c2, .int .i64 mn]] w (GetRe ns es mn n1 w) := by
  have HG := Lib.hid hg
  clear hg
  go_enter Try.func17, Try.ntmps17
  go_upto_region 1 with fail
  refine wp_named (fun W => ∃ b0, w.heap.size = b0 ∧ Blk W b0 [.slice A1 n1 c1, .slice A2 n2 c2, .int .i64 mn] ∧ Below w.heap.size w W) ⟨_, rfl, ?_, ?_⟩ ?_
  · exact Blk.new _ _ _ _ (by first | rfl | simp)
  · go_grown
  rintro W ⟨b0, e0, B0, hB⟩
  rw [e0]
  have G0 : w.heap.size ≤ b0 := by omega
  clear e0
  have ⟨L0, C0, F0⟩ := B0
  have hkW : Kept [] w W := (Kept.refl _ _).call hB
  go_upto_region 2 with fail
  refine (rsuper_any _ _ _ _ _ _ _ ns es _ (HG.out.nd.later hB) (HG.out.ed.later hB)).mono ?_
  rintro e w1 ⟨rfl, hb1⟩
  have hk1 : Kept [] W w1 := (Kept.refl _ _).call hb1
  have hkw1 : Kept [] w w1 := keptTrans hkW hk1
  have ⟨L1, C1, F1⟩ := hk1.blk (by simp) B0
  have B1 := Lib.hid (hk1.blk (by simp) B0)
  obtain ⟨se, hse⟩ : ∃ x, Sp.superErr ns es mn = x := ⟨_, rfl⟩
  rw [hse]
  have HSE := Lib.hid hse
  clear C0 F0 hse
  by_cases h0 : se = 0
  · have h0' : (se != 0) = false := by simpa using h0
    have HS0 : Hid (Sp.superErr ns es mn = 0) := Lib.hid (by rw [HSE.out]; exact h0)
    clear h0
    have hmain := main_in (sup_parts HS0.out).2.2.1
    obtain ⟨mN, hmN⟩ := Int.eq_ofNat_of_zero_le hmain.1
    subst hmN
    have hN : n1 = ns.length := HG.out.nd.1.symm
    have hN8 : n1 ≤ 8192 := by have := (sup_parts HS0.out).1; omega
    have hmN : mN < n1 := by have := hmain.2.1; omega
    have HN := Lib.hid hN
    clear hmain hN
    obtain ⟨MB, hMB⟩ : ∃ M, (List.replicate n1 (Value.bool false)).toArray = M := ⟨_, rfl⟩
    obtain ⟨i3, m1, m2, m3, m4⟩ := info_parts boolr_info
    have hmkB := fun w => run_make1 (P := Try.prog) Try.underlying29 m1 m2 m3 m4 rfl n1 (by omega) (by omega) MB hMB w
    have HMBi : Hid (∀ i, i < n1 → MB[i]? = some (.bool false)) := fun i hi => by rw [← hMB]; exact rep_at hi
    clear hMB
    go_upto_region 5 with fail
    -- MARK1
    refine (rframes_any A1 A2 n1 c1 n2 c2 mN ns es _ (HG.out.kept hkw1).nd (HG.out.kept hkw1).ed HS0.out hmN).mono ?_
    rintro e w2 ⟨g, bs, f, rfl, hgd, hfr, hb2⟩
    have HGD := Lib.hid hgd
    have HFR := Lib.hid hfr
    have hk2 : Kept [] w1 w2 := (Kept.refl _ _).call hb2
    have ⟨L2, C2, F2⟩ := hk2.blk (by simp) B1.out
    clear C1 F1 hgd hfr
    go_upto_region 6 with fail
    -- MARK2
    refine wp_named (fun X => ∃ go, w2.heap.size = go ∧ BoA X go n1 (fun _ => false) ∧ Kept [] w2 X) ⟨_, rfl, BoA.of (heap_alloc_new _ _) HMBi.out, (Kept.refl _ _).alloc _⟩ ?_
    rintro X ⟨go, ego, hBX, hkX⟩
    rw [ego]
    have BX := Lib.hid hBX
    have hgo : go < X.heap.size := hBX.1
    have hkWX : Kept [] W X := keptTrans (keptTrans hk1 hk2) hkX
    have HGX := Lib.hid (HGD.out.kept hkX)
    have HGO : Hid (w2.heap.size ≤ go) := Lib.hid (by omega)
    have HGOW : Hid (W.heap.size ≤ go) := Lib.hid (by have h1 := hk1.size; have h2 := hk2.size; omega)
    clear C2 F2 hBX hmkB ego
    go_wp2_with fail
    -- MARK3
    go_loopw [7] (fun s7 wq => ∃ (s : Nat), s ≤ n1 ∧ s7 = .int .i64 s ∧ Kept [go] X wq ∧ Hid (BoA wq go n1 (fun i => orB f s i))) (fun s7 _ => n1 - (intOf s7).toNat)
    case atStart => exact ⟨0, Nat.zero_le _, rfl, Kept.refl _ _, Lib.hid (BX.out.ext (fun _ _ => rfl))⟩
    case round =>
    clear BX
    rename World => wq
    obtain ⟨s, hs, rfl, hkq, BQ⟩ := hrel
    have hk2q : Kept [go] w2 wq := (keptWide hkX (by simp)).next hkq (fun x hx => .inl hx)
    by_cases hlt : s < n1
    · have hsn : (s : Int) < (n1 : Int) := by omega
      go_wp2_with fail
      -- MARK4
      go_loopw [8] (fun s8 wz => ∃ (j : Nat), j ≤ n1 ∧ s8 = .int .i64 j ∧ Kept [go] X wz ∧ Hid (BoA wz go n1 (fun i => if i < j then orB f (s + 1) i else orB f s i))) (fun s8 _ => n1 - (intOf s8).toNat)
      case atStart => exact ⟨0, Nat.zero_le _, rfl, hkq, Lib.hid (BQ.out.ext (fun x _ => by rw [if_neg (by omega)]))⟩
      case round =>
      clear BQ hkq hk2q
      rename World => wz
      obtain ⟨j, hj, rfl, hkz, BZ⟩ := hrel
      by_cases hlt2 : j < n1
      · have hjn : (j : Int) < (n1 : Int) := by omega
        have hk2z : Kept [go] w2 wz := (keptWide hkX (by simp)).next hkz (fun x hx => .inl hx)
        have GZ := HGD.out.keptX hk2z (by simpa using HGO.out)
        have g1 := GZ.1
        have g2 := (GZ.2 s hlt).1
        have g3 := (GZ.2 s hlt).2.1
        have g4 := (GZ.2 s hlt).2.2 j hlt2
        have o1 := BZ.out.2.1 j hlt2
        have o2 := BZ.out.2.2 j
        have o3 := BZ.out.1
        dsimp only at o1
        rw [if_neg (Nat.lt_irrefl j)] at o1
        have HOR : Hid (∀ v, v = (orB f s j || f s j) → ∀ x, x < n1 → (if x < j + 1 then orB f (s + 1) x else orB f s x) = if x = j then v else (if x < j then orB f (s + 1) x else orB f s x)) := Lib.hid (fun v hv x hx => by
          by_cases e : x = j
          · subst e; rw [if_pos (by omega), if_pos rfl, orB_succ, hv]
          · rw [if_neg e]
            by_cases e2 : x < j
            · rw [if_pos (by omega), if_pos e2]
            · rw [if_neg (by omega), if_neg e2])
        obtain ⟨ov, hov⟩ : ∃ ov, orB f s j = ov := ⟨_, rfl⟩
        obtain ⟨fv, hfv⟩ : ∃ fv, f s j = fv := ⟨_, rfl⟩
        rw [hov] at o1 HOR
        rw [hfv] at g4 HOR
        clear hov hfv GZ
        cases ov with
        | true =>
          go_wp2_with fail
          -- MARK5
          exact ⟨⟨j + 1, by omega, by go_num, hkz.set go j _ (.inl (by simp)), Lib.hid (BZ.out.set j true (HOR.out _ (by simp)))⟩, by simp [intOf]; omega⟩
        | false =>
          go_wp2_with fail
          exact ⟨⟨j + 1, by omega, by go_num, hkz.set go j _ (.inl (by simp)), Lib.hid (BZ.out.set j fv (HOR.out _ (by simp)))⟩, by simp [intOf]; omega⟩
      · obtain rfl : j = n1 := by omega
        go_wp2_with fail
        -- MARK6
        exact ⟨⟨s + 1, by omega, by go_num, hkz, Lib.hid (BZ.out.ext (fun x hx => by rw [if_pos hx]))⟩, by simp [intOf]; omega⟩
    · obtain rfl : s = n1 := by omega
      go_wp2_with fail
      go_returns
      -- MARK7
      have hdone := fun n => orB_done HS0.out HFR.out n
      rw [← HN.out] at hdone
      exact ⟨(keptTrans hkW (kept_fresh hkWX hkq (by simpa using HGOW.out))).toBelow, .inr ⟨HS0.out, go, fun i => orB f s i, rfl, BQ.out.1, BQ.out.2.1, hdone⟩⟩
  · have h0' : (se != 0) = true := by simpa using h0
    have H0 := Lib.hid h0
    clear h0
    go_wp2_with fail
    go_returns
    -- MARK9
    exact ⟨(kept_fresh hkW hk1 (by simp)).toBelow, .inl ⟨by rw [HSE.out]; exact H0.out, by rw [HSE.out]; rfl⟩⟩
end Go.Proofs.Ytffkikhknabddaa
