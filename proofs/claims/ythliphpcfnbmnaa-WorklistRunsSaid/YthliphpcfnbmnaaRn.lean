/- The walk of WorklistRuns. -/
import Derived.Test.YthliphpcfnbmnaaPr
namespace Go.Proofs.Ythliphpcfnbmnaa
open Go.RowKit Go.Df
attribute [local go_sem ↓] Go.wp_at_zero Go.wp_at_succ
/-- The state of WorklistRuns after k steps: the worklist lies in box g, the items in the order of their arrival in v. -/
def RunSt (w U : World) (g : Nat) (r : List Int) (k : Nat) (v : Value) (wr : World) : Prop :=
  ∃ (A3 A4 A5 : Option Addr) (n3 c3 n4 c4 N c5 : Nat) (li la : List Int), v = .slice A5 N c5 ∧ Blk wr g [.slice A3 n3 c3, .slice A4 n4 c4] ∧ SIn wr A3 n3 c3 r ∧ SIn wr A4 n4 c4 li ∧ wr.ownsRow U.heap.size 3 1 (.slice A5 N c5) N (la.map (Value.int .i64)) ∧
    (∀ h, (Value.slice A5 N c5).ownBlock = some h → (∀ a, A3 = some a → a.block ≠ h) ∧ (∀ a, A4 = some a → a.block ≠ h)) ∧ Below w.heap.size w wr ∧ U.heap.size ≤ wr.heap.size ∧ Wl.Runs r li la k
theorem SIn.two {w : World} {A : Option Addr} {n c b : Nat} {xs : List Int} {u v : Value} (h : SIn w A n c xs) (hx : ∀ a, A = some a → a.block ≠ b) : SIn ((w.setCell ⟨b, 0, none⟩ u).setCell ⟨b, 1, none⟩ v) A n c xs :=
  h.keptX (X := [b]) (((Kept.refl [b] w).set b 0 u (.inl (by simp))).set b 1 v (.inl (by simp))) (fun _ a ha => by have := hx a ha; simpa using this)
theorem keptX_trans {X : List Nat} {W V Z : World} (h : Kept [] W V) (k : Kept X V Z) : Kept X W Z :=
  ⟨k.os.trans h.os, k.tape.trans h.tape, k.output.trans h.output, Nat.le_trans h.size k.size, fun i hi hx => (k.block i (Nat.lt_of_lt_of_le hi h.size) hx).trans (h.block i hi (by simp))⟩
theorem RunSt.start {w U : World} {g : Nat} {r : List Int} {A1 A2 : Option Addr} {n1 c1 n2 c2 : Nat} (Bg : Blk U g [.slice A1 n1 c1, .slice A2 n2 c2]) (h1 : SIn U A1 n1 c1 r) (h2 : SIn U A2 n2 c2 []) (hB : Below w.heap.size w U) (hr : r.length ≤ 8192) :
    RunSt w U g r 0 (.slice none 0 0) U :=
  ⟨A1, A2, none, n1, c1, n2, c2, 0, 0, [], [], rfl, Bg, h1, h2, ⟨rfl, .inl ⟨rfl, rfl⟩⟩, (fun h hh => by cases hh), hB, Nat.le_refl _, Wl.runs_nil hr⟩

set_option maxRecDepth 100000 in
set_option maxHeartbeats 4000000 in
theorem runs_any (A B : Option Addr) (n c m d : Nat) (r ops : List Int) (w : World) (hr : SIn w A n c r) (ho : SIn w B m d ops) :
    Calls Try.prog 3 #[.slice A n c, .slice B m d] w fun e w' => e = .returned (.bool true) ∧ Below w.heap.size w w' := by
  obtain ⟨i0, hi, hz0, hz1, hz2⟩ := info_parts int_info
  have Hr := Lib.hid hr.1.1
  have HR := Lib.hid hr
  have HO := Lib.hid ho
  clear hr ho
  by_cases t1 : 8200 < n
  · have d1 : decide ((8200 : Int) < n) = true := by simp; omega
    go_enter Try.func3, Try.ntmps3
    go_wp2_with fail
    refine (awake_any _).mono ?_
    rintro e w1 ⟨rfl, hb1⟩
    go_wp2_with fail
    go_ret
    exact ⟨rfl, hb1⟩
  have d1 : decide ((8200 : Int) < n) = false := by simp; omega
  by_cases t2 : 200 < m
  · have d2 : decide ((200 : Int) < m) = true := by simp; omega
    go_enter Try.func3, Try.ntmps3
    go_wp2_with fail
    refine (awake_any _).mono ?_
    rintro e w1 ⟨rfl, hb1⟩
    go_wp2_with fail
    go_ret
    exact ⟨rfl, hb1⟩
  have d2 : decide ((200 : Int) < m) = false := by simp; omega
  have hm2 : m ≤ 200 := by omega
  by_cases t3 : 8192 < n
  · have d3 : decide ((8192 : Int) < n) = true := by simp; omega
    go_enter Try.func3, Try.ntmps3
    go_wp2_with fail
    refine (new_long _ _ _ _ t3).mono ?_
    rintro e w1 ⟨A1, n1, c1, A2, n2, c2, rfl, hx1, hx2, hb1, hf1, hf2⟩
    obtain rfl : 0 = n1 := hx1.1.1
    clear hx1 hx2 hf1 hf2
    go_wp2_with fail
    refine (awake_any _).mono ?_
    rintro e w2 ⟨rfl, hb2⟩
    go_wp2_with fail
    go_ret
    exact ⟨rfl, below_step (by have := hb1.size; simp; omega) (hb1.alloc hb1.size _) hb2⟩
  have d3 : decide ((8192 : Int) < n) = false := by simp; omega
  have hn2 : n ≤ 8192 := by omega
  go_enter Try.func3, Try.ntmps3
  go_wp2_with fail
  refine (new_ok _ _ _ r _ HR.out.1 (by omega) HR.out.2.2.2).mono ?_
  rintro e w1 ⟨A1, n1, c1, A2, n2, c2, rfl, hx1, hx2, hb1, hf1, hf2⟩
  have H1 := Lib.hid hx1
  have H2 := Lib.hid hx2
  clear hx1 hx2 hf1 hf2
  go_upto_region 4 with fail
  refine wp_named (fun V => ∃ g, w1.heap.size = g ∧ Blk V g [.slice A1 n1 c1, .slice A2 n2 c2] ∧ Kept [] w1 V) ⟨_, rfl, Blk.new _ _ _ _ rfl, (Kept.refl _ _).alloc _⟩ ?_
  rintro U ⟨g, eg, Bg, hkU⟩
  rw [eg]
  have G0 : w.heap.size ≤ g := by have := hb1.size; omega
  have hBU : Below w.heap.size w U := hkU.below hb1 hb1.size (by simp)
  have HS0 := Lib.hid (RunSt.start Bg (H1.out.kept hkU) (H2.out.kept hkU) hBU (by rw [Hr.out]; exact hn2))
  have GU := Bg.1
  have hUw := hBU.size
  clear eg hkU hb1 H1 H2 Bg hBU
  go_wp2_with fail
  go_loopw [7, 8] (fun v i wr => ∃ k : Nat, k ≤ m ∧ i = .int .i64 k ∧ Hid (RunSt w U g r k v wr)) (fun _ i _ => m - (intOf i).toNat)
  case atStart => exact ⟨0, Nat.zero_le _, rfl, HS0⟩
  case round =>
    obtain ⟨k, hk, rfl, HS⟩ := hrel
    clear HS0
    obtain ⟨A3, A4, A5, n3, c3, n4, c4, N, c5, li, la, rfl, BR, hx3, hx4, hxo, hxn, hBR, hsU, hrun⟩ := HS.out
    have HR3 := Lib.hid hx3
    have HR4 := Lib.hid hx4
    have HOw := Lib.hid hxo
    have HNe := Lib.hid hxn
    have HRun := Lib.hid hrun
    have hN : Hid (la.length = N) := Lib.hid (by simpa using hxo.1)
    have hNle : N ≤ k := by have h1 := hrun.leneq; have h2 := hrun.len; rw [hN.out] at h1; omega
    clear HS hx3 hx4 hxo hxn hrun
    have ⟨LR, CR, FR⟩ := BR
    by_cases hkn : k < m
    · obtain ⟨b, o, eB, hlt, hcw0⟩ := HO.out.1.2 (by omega)
      have hcw := hcw0 k hkn
      subst eB
      have hcell : wr.cell? ⟨b, o + k, none⟩ = some (.int .i64 (gi ops k)) := (hBR.cell (p := ⟨b, o + k, none⟩) hlt).trans hcw
      clear hcw0
      have k1 : decide (k < m) = true := by simp; omega
      have k2 : decide ((k : Int) < (m : Int)) = true := by simp; omega
      by_cases hneg : gi ops k < 0
      · have e0 : decide (gi ops k < 0) = true := by simpa using hneg
        clear hneg
        go_wp2_with fail
        refine (pop_u HR3.out HR4.out).mono ?_
        rw [Wl.okP_valid HRun.out.valid]
        rintro e w2 ⟨A6, n6, c6, A7, n7, c7, rfl, hx1, hx2, hb2, hf5, hf6⟩
        have H5 := Lib.hid hx1
        have H6 := Lib.hid hx2
        have HF5 := Lib.hid hf5
        have HF6 := Lib.hid hf6
        clear hx1 hx2 hf5 hf6
        go_upto_region 14 with fail
        refine wp_named (fun V => ∃ g2, w2.heap.size = g2 ∧ Blk V g2 [.slice A6 n6 c6, .slice A7 n7 c7] ∧ Kept [] w2 V) ⟨_, rfl, Blk.new _ _ _ _ rfl, (Kept.refl _ _).alloc _⟩ ?_
        rintro V ⟨g2, eg2, Bg2, hkV⟩
        rw [eg2]
        have hkw : Kept [] wr V := keptTrans ((Kept.refl _ _).call hb2) hkV
        have BV := hkw.blk (by simp) BR
        have hBV : Below w.heap.size w V := hkw.below hBR hBR.size (by simp)
        have hsV : U.heap.size ≤ V.heap.size := by have := hkw.size; omega
        have H5V := Lib.hid (H5.out.kept hkV)
        have H6V := Lib.hid (H6.out.kept hkV)
        have HOV := Lib.hid (own_keptX HOw.out hkw (by simp))
        have hgg : g < g2 := by have := hb2.size; omega
        have hwg : wr.heap.size ≤ g2 := by have := hb2.size; omega
        have HF5V : Hid (∀ a, A6 = some a → wr.heap.size ≤ a.block ∧ a.block < g2) := fun a ha => by have := HF5.out a ha; omega
        have HF6V : Hid (∀ a, A7 = some a → wr.heap.size ≤ a.block ∧ a.block < g2) := fun a ha => by have := HF6.out a ha; omega
        have ⟨LV, CV, FV⟩ := BV
        have ⟨LG, CG, FG⟩ := Bg2
        by_cases hp : 0 < li.length
        · have hN0 : 0 < N := by have := HRun.out.leneq; rw [hN.out] at this; omega
          have z1 : decide (0 < li.length) = true := by simpa using hp
          have z2 : decide ((0 : Int) < (N : Int)) = true := by simp; omega
          have z3 : decide (0 < N) = true := by simp; omega
          obtain ⟨-, px, pr, pl⟩ := Wl.popped HRun.out.valid hp
          have HX := Lib.hid px
          have HPR := Lib.hid pr
          have HPL := Lib.hid pl
          have HLe := Lib.hid (HRun.out.least hp)
          have HRp := Lib.hid (HRun.out.pop hp)
          have HInr : Hid (0 < n → ∀ j, j < N → 0 ≤ gi la j ∧ gi la j < n) := fun h1 j hj => by
            have := HRun.out.inr (by rw [Hr.out]; exact h1) j (by rw [hN.out]; exact hj)
            rwa [Hr.out] at this
          clear hp px pr pl eg2
          rw [z1]
          obtain ⟨A5', c5', hv5, hi5, hge5⟩ := SIn.of_own HOV.out
          injection hv5 with e1 _ e2
          subst e1 e2
          have HI5 := Lib.hid hi5
          clear hi5 hge5 hkV hkw BR LR CR FR HR3 HR4 HOw HNe H5 H6 HF5 HF6 hb2
          go_wp2_with fail
          refine (least_any _ _ _ _ _ _ r la _ (HR.out.later hBV).1 HI5.out.1 hN0 (by omega) HInr.out).mono ?_
          rintro e w3 ⟨rfl, hb3⟩
          rw [show Wl.leastTo r la (N - 1) = gi li 0 by rw [← hN.out]; exact HLe.out, HX.out]
          have hk3 : Kept [] V w3 := (Kept.refl _ _).call hb3
          have B3 := hk3.blk (by simp) BV
          have Bg3 := hk3.blk (by simp) Bg2
          have ⟨L3, C3, F3⟩ := B3
          have ⟨LG3, CG3, FG3⟩ := Bg3
          clear CV FV CG FG
          go_wp2_with fail
          refine (without_any _ _ _ la _ _ (HI5.out.kept hk3).1 (by omega)).mono ?_
          rintro e w4 ⟨v4, rfl, hown4, hb4⟩
          obtain ⟨A8, c8, rfl⟩ := own_slice hown4
          have hk4 : Kept [] V w4 := hk3.call hb4
          have B4 := hk4.blk (by simp) BV
          have Bg4 := hk4.blk (by simp) Bg2
          have ⟨L4, C4, F4⟩ := B4
          have ⟨LG4, CG4, FG4⟩ := Bg4
          have HO4 := Lib.hid hown4
          have ho4 := own_rng hown4
          clear hown4 C3 F3 CG3 FG3
          go_wp2_with fail
          have hkf := ((Kept.refl [g] w4).set g 0 (.slice A6 n6 c6) (.inl (by simp))).set g 1 (.slice A7 n7 c7) (.inl (by simp))
          have hB4 : Below w.heap.size w w4 := hk4.below hBV hBV.size (by simp)
          refine ⟨⟨k + 1, by omega, by go_num, ⟨A6, A7, A8, n6, c6, n7, c7, _, c8, li.drop 1, Wl.without la (gi li 0), rfl, Blk.set2 (B4.n rfl), ?_, ?_, ?_, ?_, hkf.below hB4 hB4.size (by simpa using G0), ?_, HRp.out⟩⟩, by simp [intOf]; omega⟩
          · have h9 := H5V.out
            rw [HPR.out] at h9
            exact (h9.kept hk4).keptX hkf (fun _ a ha => by have := HF5V.out a ha; simp; omega)
          · have h9 := H6V.out
            rw [HPL.out] at h9
            exact (h9.kept hk4).keptX hkf (fun _ a ha => by have := HF6V.out a ha; simp; omega)
          · exact own_keptX (own_base HO4.out (by have := hk3.size; omega)) hkf (fun h hh => by have := ho4.out h hh; have := hk3.size; simp; omega)
          · intro h hh
            have t1 := ho4.out h hh
            have t2 := hk3.size
            exact ⟨fun a ha => by have := HF5V.out a ha; omega, fun a ha => by have := HF6V.out a ha; omega⟩
          · have := hkf.size; have := hk4.size; omega
        · have hN0 : N = 0 := by have := HRun.out.leneq; rw [hN.out] at this; omega
          have z1 : decide (0 < li.length) = false := by simpa using hp
          have z2 : decide ((0 : Int) < (N : Int)) = false := by simp; omega
          have z3 : decide (0 < N) = false := by simp; omega
          rw [z1]
          have HRm := Lib.hid HRun.out.more
          have HS2 : Hid (RunSt w U g r (k + 1) (.slice A5 N c5) V) := ⟨A3, A4, A5, n3, c3, n4, c4, N, c5, li, la, rfl, BV, HR3.out.kept hkw, HR4.out.kept hkw, HOV.out, HNe.out, hBV, hsV, HRm.out⟩
          clear hN0 hp
          go_wp2_with fail
          exact ⟨⟨k + 1, by omega, by go_num, HS2⟩, by simp [intOf]; omega⟩
      · have e0 : decide (gi ops k < 0) = false := by simpa using hneg
        have hge0 : 0 ≤ gi ops k := by omega
        clear hneg
        have y1 : (0 : Int) ≤ (k : Int) := by omega
        have hltR : b < wr.heap.size := by have := hBR.size; omega
        go_upto_region 21 with fail
        go_cut [12, 13] (fun s t wx => ∃ (g3 : Nat) (A6 A7 : Option Addr) (n6 c6 n7 c7 : Nat), s = .pointer (some ⟨g3, 0, none⟩) ∧ t = .int .i64 (Wl.perr r li (gi ops k)) ∧ Blk wx g3 [.slice A6 n6 c6, .slice A7 n7 c7] ∧ Hid (SIn wx A6 n6 c6 (Wl.pR r li (gi ops k))) ∧ Hid (SIn wx A7 n7 c7 (Wl.pL r li (gi ops k))) ∧ Kept [] wr wx ∧ wr.heap.size ≤ g3 ∧ Hid (∀ a, A6 = some a → wr.heap.size ≤ a.block ∧ a.block < wx.heap.size) ∧ Hid (∀ a, A7 = some a → wr.heap.size ≤ a.block ∧ a.block < wx.heap.size))
        case first =>
          go_region_held3 (fun w' => SX0 wr w') (repeat' first | (with_reducible assumption) | (with_reducible exact SX0.init _) | (with_reducible exact SX0.refl _) | (with_reducible refine SX0.alloc ?_ _) | (with_reducible refine SX0.call ?_ (by assumption)) | (with_reducible refine SX0.set ?_ _ _ _ ?_) | (with_reducible refine SX0.drew ?_) | (simp; done) | omega | (simp; omega))
            (first | (go_at_call 13; ((with_reducible refine (push_u (HR3.out.kept (by first | exact (by assumption : SX0 wr _).1)) (HR4.out.kept (by first | exact (by assumption : SX0 wr _).1)) (gi ops k)).mono ?_)); rintro e w2 ⟨A6, n6, c6, A7, n7, c7, rfl, hx1, hx2, hb2, hf5, hf6⟩; have H5 := Lib.hid hx1; have H6 := Lib.hid hx2; have HF5 := Lib.hid hf5; have HF6 := Lib.hid hf6; clear hx1 hx2 hf5 hf6; obtain ⟨hc2, hf2, hg2⟩ := bcell hb2; have hz2' := hb2.size; try simp at hz2'))
          all_goals
            go_wp2_with fail
            go_meet
            refine ⟨_, A6, A7, n6, c6, n7, c7, rfl, rfl, ?_, ?_, ?_, ?_, ?_, ?_, ?_⟩
            · (repeat' first | (with_reducible assumption) | (with_reducible refine Blk.set1 ?_) | (with_reducible refine Blk.set2 ?_) | (with_reducible refine Blk.set3 ?_) | (with_reducible refine Blk.set4 ?_) | ((with_reducible refine Blk.new _ _ _ _ ?_); simp; done) | ((with_reducible refine BlkN.new _ _ _ _ _ rfl ?_); simp; done) | (with_reducible refine BlkN.later ?_ (by assumption)) | (with_reducible refine Blk.later ?_ (by assumption)) | (with_reducible refine Blk.alloc ?_ _) | (with_reducible refine BlkN.alloc ?_ _) | (with_reducible refine Blk.drew ?_) | (with_reducible refine BlkN.drew ?_))
            · refine Lib.hid ?_
              first | exact H5.out.alloc _ | exact SIn.two H5.out (fun a ha => by have := HF5.out a ha; first | omega | (simp at this; omega))
            · refine Lib.hid ?_
              first | exact H6.out.alloc _ | exact SIn.two H6.out (fun a ha => by have := HF6.out a ha; first | omega | (simp at this; omega))
            · (repeat' first | (with_reducible assumption) | (with_reducible exact Kept.refl _ _) | (with_reducible refine Kept.alloc ?_ _) | (with_reducible refine Kept.call ?_ (by assumption)) | (with_reducible refine Kept.set ?_ _ _ _ (Or.inr ?_)) | (with_reducible refine Kept.drew ?_) | (simp; done) | omega | (simp; omega))
            · first | (simp; done) | omega | (simp; omega)
            · exact Lib.hid (fun a ha => by have := HF5.out a ha; first | (simp at this ⊢; omega) | (simp; omega) | omega)
            · exact Lib.hid (fun a ha => by have := HF6.out a ha; first | (simp at this ⊢; omega) | (simp; omega) | omega)
        case rest =>
          obtain ⟨g3, A6, A7, n6, c6, n7, c7, rfl, rfl, Bg3, H5, H6, hkw, hwg, HF5, HF6⟩ := hcut
          have BV := hkw.blk (by simp) BR
          have hBV : Below w.heap.size w wc := hkw.below hBR hBR.size (by simp)
          have hsV : U.heap.size ≤ wc.heap.size := by have := hkw.size; omega
          have HOV := Lib.hid (own_keptX HOw.out hkw (by simp))
          have hcellV : wc.cell? ⟨b, o + k, none⟩ = some (.int .i64 (gi ops k)) := (hBV.cell (p := ⟨b, o + k, none⟩) hlt).trans hcw
          have ⟨LV, CV, FV⟩ := BV
          have ⟨LG, CG, FG⟩ := Bg3
          have hne3 : g3 ≠ g := by omega
          have hmax := Wl.allowed_max n (gi ops k) hge0
          clear CR FR hcell
          have HFin : Hid (Wl.allowed n (gi ops k) = true → ∀ A9 N9 c9 la9 wz X, la9 = (if gi ops k ∈ la then la else la ++ [gi ops k]) → (∀ y ∈ X, U.heap.size ≤ y ∧ y < wr.heap.size) → Kept X wc wz → wz.ownsRow U.heap.size 3 1 (.slice A9 N9 c9) N9 (la9.map (Value.int .i64)) → (∀ h, (Value.slice A9 N9 c9).ownBlock = some h → h ≠ g ∧ (∀ a, A6 = some a → a.block ≠ h) ∧ (∀ a, A7 = some a → a.block ≠ h)) →
              RunSt w U g r (k + 1) (.slice A9 N9 c9) ((wz.setCell ⟨g, 0, none⟩ (.slice A6 n6 c6)).setCell ⟨g, 1, none⟩ (.slice A7 n7 c7))) := by
            intro hal A9 N9 c9 la9 wz X e9 hX hkz hown9 hap
            obtain ⟨p0, pr, pruns⟩ := HRun.out.push (by omega) (x := gi ops k) (by rw [Hr.out]; exact hal)
            have hkf := ((Kept.refl [g] wz).set g 0 (.slice A6 n6 c6) (.inl (by simp))).set g 1 (.slice A7 n7 c7) (.inl (by simp))
            have hBz : Below w.heap.size w wz := hkz.below hBV hBV.size (fun y hy => by have := hX y hy; omega)
            refine ⟨A6, A7, A9, n6, c6, n7, c7, N9, c9, _, la9, rfl, Blk.set2 ((hkz.blk (fun hy => by have := hX g hy; omega) BV).n rfl), ?_, ?_, own_keptX hown9 hkf (fun h hh => by simpa using (hap h hh).1), fun h hh => (hap h hh).2, hkf.below hBz hBz.size (by simpa using G0), ?_, by rw [e9]; exact pruns⟩
            · have h9 := H5.out
              rw [pr] at h9
              exact (h9.keptX hkz (fun _ a ha hy => by have := HF5.out a ha; have := hX _ hy; omega)).keptX hkf (fun _ a ha => by have := HF5.out a ha; simp; omega)
            · exact (H6.out.keptX hkz (fun _ a ha hy => by have := HF6.out a ha; have := hX _ hy; omega)).keptX hkf (fun _ a ha => by have := HF6.out a ha; simp; omega)
            · have := hkf.size; have := hkz.size; omega
          by_cases hal : Wl.allowed n (gi ops k) = true
          · have HP0 := Lib.hid (HRun.out.push (by omega) (x := gi ops k) (by rw [Hr.out]; exact hal)).1
            obtain ⟨A5', c5', hv5, hi5, hge5⟩ := SIn.of_own HOV.out
            injection hv5 with e1 _ e2
            subst e1 e2
            have HI5 := Lib.hid hi5
            clear hi5 hge5
            by_cases hz : n = 0
            · have z1 : decide (0 < n) = false := by simp; omega
              have z2 : decide ((0 : Int) < (n : Int)) = false := by simp; omega
              rw [if_neg (by omega)] at hmax
              rw [hal] at hmax
              have hx : gi ops k < (65536 : Int) := by have := hmax.symm; simpa using this
              have g1 : decide ((65536 : Int) ≤ gi ops k) = false := by simp; omega
              rw [HP0.out]
              clear hmax hz hx
              go_wp2_with fail
              refine (without_any _ _ _ la _ _ HI5.out.1 (by omega)).mono ?_
              rintro e w4 ⟨v4, rfl, hown4, hb4⟩
              obtain ⟨A8, c8, rfl⟩ := own_slice hown4
              clear hown4
              have hk4 : Kept [] wc w4 := (Kept.refl _ _).call hb4
              have B4 := hk4.blk (by simp) BV
              have Bg4 := hk4.blk (by simp) Bg3
              have HO4 := Lib.hid (own_later HOV.out hb4)
              have hB4 : Below w.heap.size w w4 := hk4.below hBV hBV.size (by simp)
              have hs4 : wc.heap.size ≤ w4.heap.size := hk4.size
              have hcell4 : w4.cell? ⟨b, o + k, none⟩ = some (.int .i64 (gi ops k)) := (hB4.cell (p := ⟨b, o + k, none⟩) hlt).trans hcw
              have hlen := Wl.without_eq_len (l := la) (x := gi ops k)
              by_cases hm : gi ops k ∈ la
              · have hne : (((Wl.without la (gi ops k)).length : Int) == (N : Int)) = false := by
                  rw [beq_eq_false_iff_ne, ← hN.out]
                  intro h9
                  exact (hlen.1 (by omega)) hm
                have hne2 : ¬ ((Wl.without la (gi ops k)).length = N) := fun h9 => (hlen.1 (h9.trans hN.out.symm)) hm
                have hfin := Lib.hid (HFin.out hal A5 N c5 la w4 [] (by rw [if_pos hm]) (by simp) hk4 HO4.out (fun h hh => ?_))
                · have ⟨L4, C4, F4⟩ := B4
                  have ⟨LG4, CG4, FG4⟩ := Bg4
                  clear hm hlen CV FV CG FG
                  go_wp2_with fail
                  exact ⟨⟨k + 1, by omega, by go_num, hfin⟩, by simp [intOf]; omega⟩
                · have t1 := own_ge HOw.out hh
                  have t2 := own_lt HOw.out hh
                  exact ⟨by omega, fun a ha => by have := HF5.out a ha; omega, fun a ha => by have := HF6.out a ha; omega⟩
              · have heq2 : (Wl.without la (gi ops k)).length = N := (hlen.2 hm).trans hN.out
                rw [heq2]
                have hfin := Lib.hid (fun A9 c9 wz (h1 : Kept (Value.slice A5 N c5).ownBlock.toList wc wz) h2 h3 => HFin.out hal A9 (N + 1) c9 (la ++ [gi ops k]) wz _ (by rw [if_neg hm]) (fun y hy => ⟨own_ge HOw.out (by simpa using hy), own_lt HOw.out (by simpa using hy)⟩) h1 h2 h3)
                have ⟨L4, C4, F4⟩ := B4
                have ⟨LG4, CG4, FG4⟩ := Bg4
                clear hm hlen heq2 CV FV CG FG
                go_wp2_with (at_builtin; refine wpList_append_rd _ rfl _ _ 22 rfl U.heap.size 3 i0 (.int .i64 0) 1 8 Try.underlying22 hi hz0 hz1 hz2 rfl (by decide) (.slice A5 N c5) N (la.map (Value.int .i64)) rfl (own_alloc HO4.out _) (some ⟨w4.heap.size, 0, none⟩) 1 1 [.int .i64 (gi ops k)] rfl (Rd.new1 _ _ _ _ rfl) (fun h => by cases h) (by intro u hu; simp at hu; subst hu; rfl) (N + 1) rfl ((la ++ [gi ops k]).map (Value.int .i64)) (by simp) (by unfold maxLen; omega) (by omega) (by simp; omega) ?_)
                intro A9 c9 w5 hown5 hk5 hat5
                have hX5 : Hid (∀ y ∈ (Value.slice A5 N c5).ownBlock.toList, U.heap.size ≤ y ∧ y < wr.heap.size) := fun y hy => ⟨own_ge HOw.out (by simpa using hy), own_lt HOw.out (by simpa using hy)⟩
                have B5 := hk5.blk (fun hy => by have := hX5.out g hy; omega) (B4.alloc _)
                have Bg5 := hk5.blk (fun hy => by have := hX5.out g3 hy; omega) (Bg4.alloc _)
                have hk45 : Kept (Value.slice A5 N c5).ownBlock.toList wc w5 := keptX_trans (keptTrans hk4 ((Kept.refl _ _).alloc _)) hk5
                have hf := Lib.hid (hfin.out A9 c9 w5 hk45 (by rw [List.map_append]; exact hown5) (fun h hh => ?_))
                · have ⟨L5, C5, F5⟩ := B5
                  have ⟨LG5, CG5, FG5⟩ := Bg5
                  clear C4 F4 CG4 FG4 hown5 hk5 hat5 hfin
                  go_wp2_with fail
                  exact ⟨⟨k + 1, by omega, by go_num, hf⟩, by simp [intOf]; omega⟩
                · rcases hat5 h hh with h9 | h9
                  · have t1 := own_ge HOw.out h9
                    have t2 := own_lt HOw.out h9
                    exact ⟨by omega, fun a ha => by have := HF5.out a ha; omega, fun a ha => by have := HF6.out a ha; omega⟩
                  · have t2 : (w4.alloc (.cells #[.int .i64 (gi ops k)] 3)).heap.size = w4.heap.size + 1 := by simp
                    exact ⟨by omega, fun a ha => by have := HF5.out a ha; omega, fun a ha => by have := HF6.out a ha; omega⟩
            · have z1 : decide (0 < n) = true := by simp; omega
              have z2 : decide ((0 : Int) < (n : Int)) = true := by simp; omega
              rw [if_pos (by omega)] at hmax
              rw [hal] at hmax
              have hx : gi ops k < (n : Int) := by have := hmax.symm; simpa using this
              have g1 : decide ((n : Int) ≤ gi ops k) = false := by simp; omega
              rw [HP0.out]
              clear hmax hz hx
              go_wp2_with fail
              refine (without_any _ _ _ la _ _ HI5.out.1 (by omega)).mono ?_
              rintro e w4 ⟨v4, rfl, hown4, hb4⟩
              obtain ⟨A8, c8, rfl⟩ := own_slice hown4
              clear hown4
              have hk4 : Kept [] wc w4 := (Kept.refl _ _).call hb4
              have B4 := hk4.blk (by simp) BV
              have Bg4 := hk4.blk (by simp) Bg3
              have HO4 := Lib.hid (own_later HOV.out hb4)
              have hB4 : Below w.heap.size w w4 := hk4.below hBV hBV.size (by simp)
              have hs4 : wc.heap.size ≤ w4.heap.size := hk4.size
              have hcell4 : w4.cell? ⟨b, o + k, none⟩ = some (.int .i64 (gi ops k)) := (hB4.cell (p := ⟨b, o + k, none⟩) hlt).trans hcw
              have hlen := Wl.without_eq_len (l := la) (x := gi ops k)
              by_cases hm : gi ops k ∈ la
              · have hne : (((Wl.without la (gi ops k)).length : Int) == (N : Int)) = false := by
                  rw [beq_eq_false_iff_ne, ← hN.out]
                  intro h9
                  exact (hlen.1 (by omega)) hm
                have hne2 : ¬ ((Wl.without la (gi ops k)).length = N) := fun h9 => (hlen.1 (h9.trans hN.out.symm)) hm
                have hfin := Lib.hid (HFin.out hal A5 N c5 la w4 [] (by rw [if_pos hm]) (by simp) hk4 HO4.out (fun h hh => ?_))
                · have ⟨L4, C4, F4⟩ := B4
                  have ⟨LG4, CG4, FG4⟩ := Bg4
                  clear hm hlen CV FV CG FG
                  go_wp2_with fail
                  exact ⟨⟨k + 1, by omega, by go_num, hfin⟩, by simp [intOf]; omega⟩
                · have t1 := own_ge HOw.out hh
                  have t2 := own_lt HOw.out hh
                  exact ⟨by omega, fun a ha => by have := HF5.out a ha; omega, fun a ha => by have := HF6.out a ha; omega⟩
              · have heq2 : (Wl.without la (gi ops k)).length = N := (hlen.2 hm).trans hN.out
                rw [heq2]
                have hfin := Lib.hid (fun A9 c9 wz (h1 : Kept (Value.slice A5 N c5).ownBlock.toList wc wz) h2 h3 => HFin.out hal A9 (N + 1) c9 (la ++ [gi ops k]) wz _ (by rw [if_neg hm]) (fun y hy => ⟨own_ge HOw.out (by simpa using hy), own_lt HOw.out (by simpa using hy)⟩) h1 h2 h3)
                have ⟨L4, C4, F4⟩ := B4
                have ⟨LG4, CG4, FG4⟩ := Bg4
                clear hm hlen heq2 CV FV CG FG
                go_wp2_with (at_builtin; refine wpList_append_rd _ rfl _ _ 22 rfl U.heap.size 3 i0 (.int .i64 0) 1 8 Try.underlying22 hi hz0 hz1 hz2 rfl (by decide) (.slice A5 N c5) N (la.map (Value.int .i64)) rfl (own_alloc HO4.out _) (some ⟨w4.heap.size, 0, none⟩) 1 1 [.int .i64 (gi ops k)] rfl (Rd.new1 _ _ _ _ rfl) (fun h => by cases h) (by intro u hu; simp at hu; subst hu; rfl) (N + 1) rfl ((la ++ [gi ops k]).map (Value.int .i64)) (by simp) (by unfold maxLen; omega) (by omega) (by simp; omega) ?_)
                intro A9 c9 w5 hown5 hk5 hat5
                have hX5 : Hid (∀ y ∈ (Value.slice A5 N c5).ownBlock.toList, U.heap.size ≤ y ∧ y < wr.heap.size) := fun y hy => ⟨own_ge HOw.out (by simpa using hy), own_lt HOw.out (by simpa using hy)⟩
                have B5 := hk5.blk (fun hy => by have := hX5.out g hy; omega) (B4.alloc _)
                have Bg5 := hk5.blk (fun hy => by have := hX5.out g3 hy; omega) (Bg4.alloc _)
                have hk45 : Kept (Value.slice A5 N c5).ownBlock.toList wc w5 := keptX_trans (keptTrans hk4 ((Kept.refl _ _).alloc _)) hk5
                have hf := Lib.hid (hfin.out A9 c9 w5 hk45 (by rw [List.map_append]; exact hown5) (fun h hh => ?_))
                · have ⟨L5, C5, F5⟩ := B5
                  have ⟨LG5, CG5, FG5⟩ := Bg5
                  clear C4 F4 CG4 FG4 hown5 hk5 hat5 hfin
                  go_wp2_with fail
                  exact ⟨⟨k + 1, by omega, by go_num, hf⟩, by simp [intOf]; omega⟩
                · rcases hat5 h hh with h9 | h9
                  · have t1 := own_ge HOw.out h9
                    have t2 := own_lt HOw.out h9
                    exact ⟨by omega, fun a ha => by have := HF5.out a ha; omega, fun a ha => by have := HF6.out a ha; omega⟩
                  · have t2 : (w4.alloc (.cells #[.int .i64 (gi ops k)] 3)).heap.size = w4.heap.size + 1 := by simp
                    exact ⟨by omega, fun a ha => by have := HF5.out a ha; omega, fun a ha => by have := HF6.out a ha; omega⟩
          · rw [Bool.not_eq_true] at hal
            have HP4 := Lib.hid (HRun.out.range (x := gi ops k) (by rw [Hr.out]; exact hal))
            by_cases hz : n = 0
            · have z1 : decide (0 < n) = false := by simp; omega
              have z2 : decide ((0 : Int) < (n : Int)) = false := by simp; omega
              rw [if_neg (by omega)] at hmax
              rw [hal] at hmax
              have hx : (65536 : Int) ≤ gi ops k := by have := hmax.symm; simp at this; omega
              have g1 : decide ((65536 : Int) ≤ gi ops k) = true := by simpa using hx
              have hS9 : Hid (RunSt w U g r (k + 1) (.slice A5 N c5) wc) := ⟨A3, A4, A5, n3, c3, n4, c4, N, c5, li, la, rfl, BV, HR3.out.kept hkw, HR4.out.kept hkw, HOV.out, HNe.out, hBV, hsV, HRun.out.more⟩
              rw [HP4.out]
              clear hmax hz hx
              go_wp2_with fail
              exact ⟨⟨k + 1, by omega, by go_num, hS9⟩, by simp [intOf]; omega⟩
            · have z1 : decide (0 < n) = true := by simp; omega
              have z2 : decide ((0 : Int) < (n : Int)) = true := by simp; omega
              rw [if_pos (by omega)] at hmax
              rw [hal] at hmax
              have hx : (n : Int) ≤ gi ops k := by have := hmax.symm; simp at this; omega
              have g1 : decide ((n : Int) ≤ gi ops k) = true := by simpa using hx
              have hS9 : Hid (RunSt w U g r (k + 1) (.slice A5 N c5) wc) := ⟨A3, A4, A5, n3, c3, n4, c4, N, c5, li, la, rfl, BV, HR3.out.kept hkw, HR4.out.kept hkw, HOV.out, HNe.out, hBV, hsV, HRun.out.more⟩
              rw [HP4.out]
              clear hmax hz hx
              go_wp2_with fail
              exact ⟨⟨k + 1, by omega, by go_num, hS9⟩, by simp [intOf]; omega⟩
    · obtain rfl : k = m := by omega
      have k1 : decide (k < k) = false := by simp
      have HV := Lib.hid HRun.out.valid
      have HNl : Hid (li.length = N) := Lib.hid (HRun.out.leneq.symm.trans hN.out)
      have HSz : Hid (Wl.size r li = (N : Int)) := Lib.hid (by rw [Wl.size, if_pos (Wl.chk_of_valid HV.out), HNl.out])
      have HIt : Hid (Wl.items r li = li) := Lib.hid (by rw [Wl.items, if_pos (Wl.chk_of_valid HV.out)])
      go_wp2_with fail
      refine (len_any _ _ _ _ _ _ r li _ HR3.out.1 HR4.out.1).mono ?_
      rw [HSz.out]
      rintro e w2 ⟨rfl, hb2⟩
      have hk2 : Kept [] wr w2 := (Kept.refl _ _).call hb2
      have ⟨hc2, hf2, hg2⟩ := hk2.rules
      go_wp2_with fail
      refine (drain_s _ _ _ _ _ _ r li _ (HR3.out.kept hk2).1 (HR4.out.kept hk2).1 HR4.out.2.2.2).mono ?_
      rw [HIt.out]
      rintro e w3 ⟨A7, n7, c7, rfl, hx1, hb3⟩
      obtain rfl : N = n7 := HNl.out.symm.trans hx1.1.1
      have hk3 : Kept [] wr w3 := hk2.call hb3
      have ⟨hc3, hf3, hg3⟩ := hk3.rules
      clear hx1
      go_wp2_with fail
      refine (check_any _ _ _ _ _ _ r li _ (HR3.out.kept hk3).1 (HR4.out.kept hk3).1).mono ?_
      rw [Wl.chk_of_valid HV.out]
      rintro e w4 ⟨rfl, hb4⟩
      have hk4 : Kept [] wr w4 := hk3.call hb4
      go_wp2_with fail
      refine (awake_any _).mono ?_
      rintro e w5 ⟨rfl, hb5⟩
      have hk5 : Kept [] wr w5 := hk4.call hb5
      go_wp2_with fail
      go_ret
      exact ⟨rfl, hk5.below hBR hBR.size (by simp)⟩
end Go.Proofs.Ythliphpcfnbmnaa
