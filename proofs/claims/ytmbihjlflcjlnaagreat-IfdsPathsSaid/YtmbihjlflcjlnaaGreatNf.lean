/- The contract of ifds.Paths. -/
import Derived.Test.YtmbihjlflcjlnaaGreatNe
import Derived.Test.YtmbihjlflcjlnaaGreatJm
import Derived.Test.YtmbihjlflcjlnaaGreatZe
import Derived.Test.YtmbihjlflcjlnaaGreatZv
namespace Go.Proofs.YtmbihjlflcjlnaaGreat
open Go.RowKit Go.Df Go.Df.If
attribute [local go_sem ↓] Go.wp_at_zero Go.wp_at_succ

set_option maxRecDepth 100000 in
set_option maxHeartbeats 4000000 in
theorem paths_err (A1 A2 A3 A4 : Option Addr) (n1 c1 n2 c2 n3 c3 n4 c4 : Nat) (mn F pe : Int) (w : World) (h0 : pe ≠ 0)
    (hchk : ∀ w1, Below w.heap.size w w1 → Calls Tryz.prog 24 #[.agg #[.slice A1 n1 c1, .slice A2 n2 c2, .int .i64 mn, .int .i64 F, .slice A3 n3 c3, .slice A4 n4 c4]] w1 fun e w' => e = .returned (.int .i64 pe) ∧ Below w1.heap.size w1 w') :
    Calls Tryz.prog 8 #[.agg #[.slice A1 n1 c1, .slice A2 n2 c2, .int .i64 mn, .int .i64 F, .slice A3 n3 c3, .slice A4 n4 c4]] w fun e w' => e = .returned (.tuple #[.slice none 0 0, .int .i64 pe]) ∧ Below w.heap.size w w' := by
  have HCHK := Lib.hid hchk
  have h0' : (pe != 0) = true := by simpa using h0
  clear hchk h0
  go_enter Tryz.func8, Tryz.ntmps8
  go_upto_region 1 with fail
  refine wp_named (fun W => ∃ b0, w.heap.size = b0 ∧ Blk W b0 [.slice A1 n1 c1, .slice A2 n2 c2, .int .i64 mn, .int .i64 F, .slice A3 n3 c3, .slice A4 n4 c4] ∧ Below w.heap.size w W) ⟨_, rfl, ?_, ?_⟩ ?_
  · exact Blk.new _ _ _ _ (by first | rfl | simp)
  · go_grown
  rintro W ⟨b0, e0, B0, hB⟩
  rw [e0]
  have G0 : w.heap.size ≤ b0 := by omega
  clear e0
  have ⟨L0, C0, F0⟩ := B0
  go_wp2_with (go_at_call 24; refine (HCHK.out _ hB).mono ?_; rintro e w1 ⟨rfl, hb1⟩)
  go_ret2
  exact ⟨rfl, hB.trans (hb1.mono hB.size)⟩

set_option maxRecDepth 100000 in
set_option maxHeartbeats 4000000 in
theorem paths_ok {p : Pb} (A1 A2 A3 A4 : Option Addr) (n1 c1 n2 c2 n3 c3 n4 c4 : Nat) (mN : Nat) (F : Int) (w : World) (hmn : p.mn = mN) (hF : p.F = F) (hnd : Nds w A1 n1 p.ns) (hed : Eds w A2 n2 p.es) (hfl : Flw w A3 n3 p.fl) (hsd : Sds w A4 n4 p.sd) (ho : Ok p) (hn4 : n4 ≤ 1000000)
    (hchk : ∀ w1, Below w.heap.size w w1 → Calls Tryz.prog 24 #[.agg #[.slice A1 n1 c1, .slice A2 n2 c2, .int .i64 mN, .int .i64 F, .slice A3 n3 c3, .slice A4 n4 c4]] w1 fun e w' => e = .returned (.int .i64 0) ∧ Below w1.heap.size w1 w') :
    Calls Tryz.prog 8 #[.agg #[.slice A1 n1 c1, .slice A2 n2 c2, .int .i64 mN, .int .i64 F, .slice A3 n3 c3, .slice A4 n4 c4]] w fun e w' => ∃ A, e = .returned (.tuple #[.slice A n1 n1, .int .i64 0]) ∧ Flw w' A n1 ((List.range n1).map (pairL p)) ∧ Below w.heap.size w w' := by
  obtain ⟨j0, ji, jz0, jz1, jz2⟩ := info_parts prow_info
  obtain ⟨MR, hMR⟩ : ∃ M, (List.replicate n1 (Value.slice none 0 0)).toArray = M := ⟨_, rfl⟩
  have hN2 : n1 ≤ 8192 := by have := (sup_parts ho.sup).1; have := hnd.1; omega
  have hmkR := fun w => run_make1 (P := Tryz.prog) Tryz.underlying31 ji jz0 jz1 jz2 rfl n1 (by omega) (by omega) MR hMR w
  have HMR := Lib.hid hMR
  have HCHK := Lib.hid hchk
  have HND := Lib.hid hnd
  have HED := Lib.hid hed
  have HFL := Lib.hid hfl
  have HSD := Lib.hid hsd
  have HO := Lib.hid ho
  have HF := Lib.hid hF
  have HMN := Lib.hid hmn
  clear hMR hchk hnd hed hfl hsd ho hF hmn
  go_enter Tryz.func8, Tryz.ntmps8
  go_upto_region 1 with fail
  refine wp_named (fun W => ∃ b0, w.heap.size = b0 ∧ Blk W b0 [.slice A1 n1 c1, .slice A2 n2 c2, .int .i64 mN, .int .i64 F, .slice A3 n3 c3, .slice A4 n4 c4] ∧ Below w.heap.size w W) ⟨_, rfl, ?_, ?_⟩ ?_
  · exact Blk.new _ _ _ _ (by first | rfl | simp)
  · go_grown
  rintro W ⟨b0, e0, B0, hB⟩
  rw [e0]
  have G0 : w.heap.size ≤ b0 := by omega
  clear e0
  have ⟨L0, C0, F0⟩ := B0
  go_upto_region 2 with (go_at_call 24; refine (HCHK.out _ hB).mono ?_; rintro e w1 ⟨rfl, hb1⟩)
  have hkw1 : Kept [] w w1 := ((Kept.refl _ _).call hB).call hb1
  have HB0 := Lib.hid (B0.later hb1)
  have ⟨L01, C01, F01⟩ := HB0.out
  clear C0 F0
  go_upto_region 5 with (go_at_call 25; refine (tabulate_any A1 A2 A3 A4 n1 c1 n2 c2 n3 c3 n4 c4 mN F w1 HMN.out HF.out (HND.out.later hkw1.toBelow) (HED.out.later hkw1.toBelow) (HFL.out.later hkw1.toBelow) (HSD.out.later hkw1.toBelow) HO.out hn4).mono ?_; rintro e w2 ⟨kn, g, O, G, s, rfl, hin, hm, hpe, hwf⟩)
  obtain rfl : n1 = kn.n1 := by have h1 := hin.nd.1; have h2 := HND.out.1; omega
  have HM := Lib.hid hm
  have HPE := Lib.hid hpe
  have hkw2 : Kept [] w1 w2 := (Kept.refl _ _).call hm.low
  have HK02 : Hid (Kept [] w w2) := Lib.hid (keptTrans hkw1 hkw2)
  have HB02 := Lib.hid (hkw2.blk (by simp) HB0.out)
  have ⟨L02, C02, F02⟩ := HB02.out
  clear C01 F01 hm hpe hwf hin
  go_upto_region 6 with fail
  refine wp_named (fun V => ∃ gr, w2.heap.size = gr ∧ V.heap[gr]? = some (.cells MR 40 (0, 0)) ∧ Kept [] w2 V) ⟨_, rfl, by have h9 := World.alloc_heap_new w2 (.cells MR 40 (0, 0)); simpa using h9, (Kept.refl _ _).alloc _⟩ ?_
  rintro V ⟨gr, eg, hgr, hkV⟩
  rw [eg]
  have HPM : Hid (PrM V gr kn.n1 0 (pairL p)) := Lib.hid (PrM.start hgr (fun i hi => by
    have h9 := rep_at (v := Value.slice none 0 0) hi
    rw [HMR.out] at h9
    exact h9))
  have hgw : w.heap.size ≤ gr := by have := HK02.out.size; omega
  have hg2 : gr = w2.heap.size := eg.symm
  have HG2 := Lib.hid hg2
  have HBV := Lib.hid hkV.toBelow
  clear hmkR C02 F02 eg hgr hkV hg2
  go_wp2_with fail
  go_loopw [22] (fun s22 wr => ∃ (i : Nat), i ≤ kn.n1 ∧ s22 = .int .i64 i ∧ Hid (PrM wr gr kn.n1 i (pairL p)) ∧ Hid (Below w2.heap.size w2 wr)) (fun s22 _ => kn.n1 - (intOf s22).toNat)
  case atStart => exact ⟨0, Nat.zero_le _, rfl, HPM, HBV⟩
  case round =>
  clear HPM HBV
  obtain ⟨i, hi, rfl, PM, BW⟩ := hrel
  have KW := Lib.hid (keptTrans HK02.out ((Kept.refl [] w2).call BW.out))
  have MW := Lib.hid (HM.out.call BW.out)
  by_cases hlt : i < kn.n1
  case neg =>
    obtain rfl : i = kn.n1 := by omega
    clear hlt
    go_wp2_with fail
    go_ret2
    exact ⟨_, rfl, PM.out.flw, KW.out.toBelow⟩
  have hi9 : (i : Int) < (kn.n1 : Int) := by omega
  go_wp2_with (go_at_call 26; refine (pairs_any _ i MW.out hlt HO.out HPE.out).mono ?_; rintro e w3 ⟨A3, k3, c3, rfl, hkc3, hp3, hb3⟩; have HP3 := Lib.hid (PM.out.kept ((Kept.refl [] wr).call hb3)); have HPR3 := Lib.hid hp3; obtain ⟨Ao, mo, co, cA, -, -⟩ := HP3.out.c i hlt; have fA := HP3.out.fr i; have lA := HP3.out.l; clear hp3)
  exact ⟨⟨i + 1, by omega, by go_num, Lib.hid (HP3.out.set hlt HPR3.out hkc3), Lib.hid ((BW.out.trans (hb3.mono BW.out.size)).setCell (by show w2.heap.size ≤ gr; rw [HG2.out]; exact Nat.le_refl _) _)⟩, by simp [intOf]; omega⟩

theorem paths_any {p : Pb} (A1 A2 A3 A4 : Option Addr) (n1 c1 n2 c2 n3 c3 n4 c4 : Nat) (w : World) (hG : Gr w A1 n1 A2 n2 p.ns p.es) (hF : Flw w A3 n3 p.fl) (hS : Sds w A4 n4 p.sd) (hn4 : n4 ≤ 1000000) (hpe : pbErr p = 0) :
    Calls Tryz.prog 8 #[.agg #[.slice A1 n1 c1, .slice A2 n2 c2, .int .i64 p.mn, .int .i64 p.F, .slice A3 n3 c3, .slice A4 n4 c4]] w fun e w' => ∃ A, e = .returned (.tuple #[.slice A n1 n1, .int .i64 0]) ∧ Flw w' A n1 ((List.range n1).map (pairL p)) ∧ Below w.heap.size w w' := by
  have ho := ok_of hpe
  have hm := main_in (sup_parts ho.sup).2.2.1
  obtain ⟨mN, hmN⟩ : ∃ mN : Nat, p.mn = mN := ⟨p.mn.toNat, by omega⟩
  have := paths_ok A1 A2 A3 A4 n1 c1 n2 c2 n3 c3 n4 c4 mN p.F w hmN rfl hG.nd hG.ed hF hS ho hn4 (fun w1 hb1 => by
    have h1 := ifdsck_any A1 A2 A3 A4 n1 c1 n2 c2 n3 c3 n4 c4 p.mn p.F p.ns p.es p.fl p.sd w1 (hG.nd.later hb1) (hG.ed.later hb1) (hF.later hb1) (hS.later hb1) (by omega) hG.wn hG.we
    have e : pbErr ⟨p.ns, p.es, p.mn, p.F, p.fl, p.sd⟩ = 0 := hpe
    rw [e, hmN] at h1
    exact h1)
  rw [← hmN] at this
  exact this

theorem paths_bad {p : Pb} (A1 A2 A3 A4 : Option Addr) (n1 c1 n2 c2 n3 c3 n4 c4 : Nat) (w : World) (hG : Gr w A1 n1 A2 n2 p.ns p.es) (hF : Flw w A3 n3 p.fl) (hS : Sds w A4 n4 p.sd) (hn4 : n4 ≤ 9223372036854775807) (pe : Int) (hpe : pbErr p = pe) (h0 : pe ≠ 0) :
    Calls Tryz.prog 8 #[.agg #[.slice A1 n1 c1, .slice A2 n2 c2, .int .i64 p.mn, .int .i64 p.F, .slice A3 n3 c3, .slice A4 n4 c4]] w fun e w' => e = .returned (.tuple #[.slice none 0 0, .int .i64 pe]) ∧ Below w.heap.size w w' :=
  paths_err A1 A2 A3 A4 n1 c1 n2 c2 n3 c3 n4 c4 p.mn p.F pe w h0 (fun w1 hb1 => by
    have h1 := ifdsck_any A1 A2 A3 A4 n1 c1 n2 c2 n3 c3 n4 c4 p.mn p.F p.ns p.es p.fl p.sd w1 (hG.nd.later hb1) (hG.ed.later hb1) (hF.later hb1) (hS.later hb1) hn4 hG.wn hG.we
    have e : pbErr ⟨p.ns, p.es, p.mn, p.F, p.fl, p.sd⟩ = pe := hpe
    rw [e] at h1
    exact h1)
end Go.Proofs.YtmbihjlflcjlnaaGreat
