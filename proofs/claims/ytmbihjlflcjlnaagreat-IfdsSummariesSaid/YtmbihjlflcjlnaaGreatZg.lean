/- A pack of texts: Kr Kt. -/
import Derived.Test.YtmbihjlflcjlnaaGreatZt
import Derived.Test.YtmbihjlflcjlnaaGreatKs
import Derived.Test.YtmbihjlflcjlnaaGreatZn
/- The contracts of the reference's does and Returned (printed by genKr.py). -/
namespace Go.Proofs.YtmbihjlflcjlnaaGreat
open Go.RowKit Go.Df Go.Df.If
attribute [local go_sem ↓] Go.wp_at_zero Go.wp_at_succ
variable {p : Pb} {N F mN : Nat} {A1 A2 A3 A4 : Option Addr} {n2 n3 n4 : Nat} {X : List Nat} {bs : Nat → Nat} {r : Nat} {w0 w : World} {T : Nat → Nat → Nat → Bool}

set_option maxRecDepth 100000 in
set_option maxHeartbeats 4000000 in
theorem rdoes_is (c1 c2 c3 c4 c b x d : Nat) (v : Bool) (w : World) (hT : TabM N F X bs r w T) (hN : N ≤ 8192) (hF : F ≤ 1024) (hx : x < N) (hb : b < F) (hd : d < F) (hv : T x b d = v) :
    Calls Tryz.prog 149 #[.agg #[.slice A1 N c1, .slice A2 n2 c2, .int .i64 mN, .int .i64 (F : Nat), .slice A3 n3 c3, .slice A4 n4 c4, .int .i64 (F : Nat), .slice (some ⟨r, 0, none⟩) N c, .slice none 0 0, .bool false], .int .i64 b, .int .i64 x, .int .i64 d] w fun e w' => e = .returned (.bool v) ∧ Below w.heap.size w w' := by
  have HT := Lib.hid hT
  have HV := Lib.hid hv
  clear hT hv
  go_enter Tryz.func149, Tryz.ntmps149
  go_upto_region 1 with fail
  refine wp_named (fun W => ∃ b0, w.heap.size = b0 ∧ Blk W b0 [.slice A1 N c1, .slice A2 n2 c2, .int .i64 mN, .int .i64 (F : Nat), .slice A3 n3 c3, .slice A4 n4 c4, .int .i64 (F : Nat), .slice (some ⟨r, 0, none⟩) N c, .slice none 0 0, .bool false] ∧ Below w.heap.size w W) ⟨_, rfl, ?_, ?_⟩ ?_
  · exact Blk.new _ _ _ _ (by first | rfl | simp)
  · go_grown
  rintro W ⟨b0, e0, B0, hB⟩
  rw [e0]
  have G0 : w.heap.size ≤ b0 := by omega
  clear e0
  have ⟨L0, C0, F0⟩ := B0
  have TW := Lib.hid (HT.out.later hB)
  go_wp2_with (go_at_call 34; refine (rtHas_is c b x d v _ TW.out hN hF hx hb hd HV.out).mono ?_; rintro e w3 ⟨rfl, hb3⟩)
  go_ret
  exact ⟨rfl, hB.trans (hb3.mono hB.size)⟩

set_option maxRecDepth 100000 in
set_option maxHeartbeats 8000000 in
theorem rreturned_any (k c1 c2 c3 c4 c : Nat) (w : World) (hP : PbW p N F mN A1 A2 A3 A4 n2 n3 n4 w0) (hb0 : Below w0.heap.size w0 w) (hX : ∀ x ∈ X, w0.heap.size ≤ x) (hT : TabM N F X bs r w T) (hk : k < n2) (hN1 : 0 < N) :
    Calls Tryz.prog 113 #[.agg #[.slice A1 N c1, .slice A2 n2 c2, .int .i64 mN, .int .i64 (F : Nat), .slice A3 n3 c3, .slice A4 n4 c4, .int .i64 (F : Nat), .slice (some ⟨r, 0, none⟩) N c, .slice none 0 0, .bool false], .int .i64 k] w (Turns N F X bs r w (returnedT p k n2 (T, false))) := by
  obtain rfl : n2 = n3 := hP.n32.symm
  obtain ⟨be, oe, rfl, hle, hce⟩ := hP.ed.2 (by omega)
  obtain ⟨bnn, on, rfl, hln, hcn⟩ := hP.nd.2 hN1
  obtain ⟨bf, of_, rfl, hlf, hcf⟩ := hP.fl.2 (by omega)
  have HCE := Lib.hid hce
  have HCN := Lib.hid hcn
  have HCF := Lib.hid hcf
  have HP := Lib.hid hP
  have HX := Lib.hid hX
  have hN8 := hP.N8
  have hF8 := hP.F8
  have hE8 : n2 ≤ 32768 := by have := (sup_parts hP.ok.sup).2.1; have := hP.ed.1; omega
  have HES := Lib.hid hP.ed.1
  have HXlt := Lib.hid hT.lt
  have HT := Lib.hid hT
  have HFN := Lib.hid hP.Fn
  have hszw := hb0.size
  obtain ⟨ra, rb, rk, rc, en, hra, hrb, -, -⟩ := hP.edge hk
  have HEN := Lib.hid en
  clear hP hX hT hce hcn hcf en
  go_enter Tryz.func113, Tryz.ntmps113
  go_upto_region 1 with fail
  refine wp_named (fun W => ∃ b0, w.heap.size = b0 ∧ Blk W b0 [.slice (some ⟨bnn, on, none⟩) N c1, .slice (some ⟨be, oe, none⟩) n2 c2, .int .i64 mN, .int .i64 (F : Nat), .slice (some ⟨bf, of_, none⟩) n2 c3, .slice A4 n4 c4, .int .i64 (F : Nat), .slice (some ⟨r, 0, none⟩) N c, .slice none 0 0, .bool false] ∧ Below w.heap.size w W) ⟨_, rfl, ?_, ?_⟩ ?_
  · exact Blk.new _ _ _ _ (by first | rfl | simp)
  · go_grown
  rintro W ⟨b0, e0, B0, hB⟩
  rw [e0]
  have G0 : w.heap.size ≤ b0 := by omega
  clear e0
  have ⟨L0, C0, F0⟩ := B0
  have hX0 : b0 ∉ X := fun h => by have := HXlt.out _ h; omega
  have HXW : Hid (∀ y, W.heap.size ≤ y → y ∉ X) := fun y hy h => by have := HXlt.out _ h; have := hB.size; omega
  have HBW : Hid (Below w0.heap.size w0 W) := Lib.hid (hb0.trans (hB.mono hszw))
  have hleW : be < W.heap.size := Nat.lt_of_lt_of_le hle HBW.out.size
  have e1 := (HBW.out.cell (p := ⟨be, _, none⟩) hle).trans (HCE.out k hk).1
  have e2 := (HBW.out.cell (p := ⟨be, _, none⟩) hle).trans (HCE.out k hk).2.1
  have e3 := (HBW.out.cell (p := ⟨be, _, none⟩) hle).trans (HCE.out k hk).2.2.1
  have e4 := (HBW.out.cell (p := ⟨be, _, none⟩) hle).trans (HCE.out k hk).2.2.2
  rw [HEN.out] at e1 e2 e3 e4
  have hk9 : (k : Int) < (n2 : Int) := by omega
  go_upto_region 4 with fail
  refine wp_named (fun V => ∃ bp br, W.heap.size = bp ∧ W.heap.size + 1 = br ∧ Blk V bp [.slice (some ⟨bnn, on, none⟩) N c1, .slice (some ⟨be, oe, none⟩) n2 c2, .int .i64 mN, .int .i64 (F : Nat), .slice (some ⟨bf, of_, none⟩) n2 c3, .slice A4 n4 c4] ∧ Blk V br [.int .i64 ra, .int .i64 rb, .int .i64 rk, .int .i64 rc] ∧ Kept [] W V) ⟨_, _, rfl, rfl, (Blk.new _ _ _ _ rfl).alloc _, Blk.new _ _ _ _ (by simp), ((Kept.refl _ _).alloc _).alloc _⟩ ?_
  rintro V ⟨bp, br, ep, er, Bp, Br, hkV⟩
  rw [er, ep]
  have hXp : bp ∉ X := HXW.out bp (by omega)
  have hXr : br ∉ X := HXW.out br (by omega)
  have hszV := hkV.size
  have HXV : Hid (∀ y, V.heap.size ≤ y → y ∉ X) := Lib.hid (fun y hy => HXW.out y (by omega))
  have HBV : Hid (Below w0.heap.size w0 V) := Lib.hid (HBW.out.trans (hkV.toBelow.mono HBW.out.size))
  have HwV : Hid (Kept [] w V) := Lib.hid (((Kept.refl [] w).call hB).next hkV (by simp))
  have TV := Lib.hid (HT.out.kept0 HwV.out)
  have B0V := hkV.blk (by simp) B0
  have ⟨L0V, C0V, F0V⟩ := B0V
  have BpV := Bp
  have BrV := Br
  have ⟨LpV, CpV, FpV⟩ := BpV
  have ⟨LrV, CrV, FrV⟩ := BrV
  obtain ⟨Ak, nk, ck9, fk1, -, fk3⟩ := HCF.out k hk
  have HK1 := Lib.hid fk1
  have HKP := Lib.hid fk3
  have HKL := Lib.hid fk3.1
  have hnk : nk ≤ 8192 := by have := (HP.out.ok.fl k (by rw [HP.out.fl.1]; exact hk)).1; have := fk3.1; omega
  clear C0 F0 e1 e2 e3 e4 ep er fk1 fk3 Bp Br
  go_wp2_with fail
  go_loopw [6, 8] (fun s6 s8 wr => ∃ (i : Nat) (m : Bool) (Ti : Nat → Nat → Nat → Bool), i ≤ n2 ∧ s8 = .int .i64 i ∧ s6 = .bool m ∧ Kept X V wr ∧ Hid (TabM N F X bs r wr Ti) ∧ Hid (returnedT p k i (T, false) = (Ti, m))) (fun _ s8 _ => n2 - (intOf s8).toNat)
  case atStart => exact ⟨0, false, T, Nat.zero_le _, rfl, rfl, Kept.refl _ _, TV, Lib.hid rfl⟩
  case round =>
  clear C0V F0V CpV FpV CrV FrV
  obtain ⟨i, m0, Ti, hi, rfl, rfl, hkr, TR, HSI⟩ := hrel
  have B0W := hkr.blk hX0 B0V
  have ⟨L0W, C0W, F0W⟩ := B0W
  have BpW := hkr.blk hXp BpV
  have ⟨LpW, CpW, FpW⟩ := BpW
  have BrW := hkr.blk hXr BrV
  have ⟨LrW, CrW, FrW⟩ := BrW
  have hBr : Below w0.heap.size w0 wr := Kept.below HBV.out HBV.out.size HX.out hkr
  have hler : be < wr.heap.size := Nat.lt_of_lt_of_le hle hBr.size
  by_cases hlt : i < n2
  case neg =>
    obtain rfl : i = n2 := by omega
    go_wp2_with fail
    go_ret
    refine ⟨by rw [HSI.out]; rfl, (keptWide HwV.out (by simp)).next hkr (fun y hy => .inl hy), ?_⟩
    rw [HSI.out]
    exact TR.out
  have hi9 : (i : Int) < (n2 : Int) := by omega
  obtain ⟨ca, cb, ck, cc, eni, hca, hcb, -, -⟩ := HP.out.edge hlt
  have HEI := Lib.hid eni
  have e1 := (hBr.cell (p := ⟨be, _, none⟩) hle).trans (HCE.out i hlt).1
  have e2 := (hBr.cell (p := ⟨be, _, none⟩) hle).trans (HCE.out i hlt).2.1
  have e3 := (hBr.cell (p := ⟨be, _, none⟩) hle).trans (HCE.out i hlt).2.2.1
  have e4 := (hBr.cell (p := ⟨be, _, none⟩) hle).trans (HCE.out i hlt).2.2.2
  rw [eni] at e1 e2 e3 e4
  clear eni
  go_upto_region 8 with fail
  refine wp_named (fun U => ∃ g, wr.heap.size = g ∧ Blk U g [.int .i64 ca, .int .i64 cb, .int .i64 ck, .int .i64 cc] ∧ Kept [] wr U) ⟨_, rfl, Blk.new _ _ _ _ rfl, (Kept.refl _ _).alloc _⟩ ?_
  rintro U ⟨bc, ec, Bc, hkU⟩
  rw [ec]
  have hXc : bc ∉ X := HXV.out bc (by have := hkr.size; omega)
  have BcU := Bc
  have ⟨LcU, CcU, FcU⟩ := BcU
  clear C0W F0W CpW FpW CrW FrW e1 e2 e3 e4 ec Bc
  have B0U := hkU.blk (by simp) B0W
  have ⟨L0U, C0U, F0U⟩ := B0U
  have BpU := hkU.blk (by simp) BpW
  have ⟨LpU, CpU, FpU⟩ := BpU
  have BrU := hkU.blk (by simp) BrW
  have ⟨LrU, CrU, FrU⟩ := BrU
  have hBU : Below w0.heap.size w0 U := hBr.trans (hkU.toBelow.mono hBr.size)
  have hlnU : bnn < U.heap.size := Nat.lt_of_lt_of_le hln hBU.size
  obtain ⟨nfc, hnfc⟩ : ∃ x, (gn p.ns cb).f = x := ⟨_, rfl⟩
  obtain ⟨nfr, hnfr⟩ : ∃ x, (gn p.ns ra).f = x := ⟨_, rfl⟩
  have f1 := (hBU.cell (p := ⟨bnn, _, none⟩) hln).trans (HCN.out cb hcb).1
  have f2 := (hBU.cell (p := ⟨bnn, _, none⟩) hln).trans (HCN.out ra hra).1
  rw [hnfc] at f1
  rw [hnfr] at f2
  have HNC := Lib.hid hnfc
  have HNR := Lib.hid hnfr
  have hkVU : Kept X V U := hkr.next hkU (by simp)
  have TU := Lib.hid (TR.out.kept0 hkU)
  have hcb9 : (cb : Int) < (N : Int) := by omega
  have hra9 : (ra : Int) < (N : Int) := by omega
  have HST : Hid (returnedT p k (i + 1) (T, false) = if retC p k i then retJ p k i (gf p.fl i).length (Ti, m0) else (Ti, m0)) := by
    show _ = _
    have h9 := HSI.out
    unfold returnedT at h9 ⊢
    rw [If.up, h9]
  have HRC : Hid (retC p k i ↔ ck = 2 ∧ (ca : Int) = rc ∧ nfc = nfr) := by
    show _ ↔ _
    unfold retC
    rw [HEI.out, HEN.out, ← HNC.out, ← HNR.out]
    rfl
  clear hnfc hnfr
  by_cases k1 : ck = 2
  case neg =>
    have z1 : (ck != 2) = true := by simpa using k1
    have HE : Hid (returnedT p k (i + 1) (T, false) = (Ti, m0)) := Lib.hid (HST.out.trans (if_neg (fun h => k1 (HRC.out.1 h).1)))
    clear k1
    go_quiet (fail)
    go_wp2_with fail
    exact ⟨⟨i + 1, m0, Ti, by omega, by go_num, rfl, hkVU.drewN _, Lib.hid (TU.out.kept0 ((Kept.refl [] U).drewN _)), HE⟩, by simp [intOf]; omega⟩
  by_cases k2 : (ca : Int) = rc
  case neg =>
    have z0 : (ck != 2) = false := by simpa using k1
    have z1 : ((ca : Int) != rc) = true := by simpa using k2
    have HE : Hid (returnedT p k (i + 1) (T, false) = (Ti, m0)) := Lib.hid (HST.out.trans (if_neg (fun h => k2 (HRC.out.1 h).2.1)))
    clear k2
    go_quiet (fail)
    go_wp2_with fail
    exact ⟨⟨i + 1, m0, Ti, by omega, by go_num, rfl, hkVU.drewN _, Lib.hid (TU.out.kept0 ((Kept.refl [] U).drewN _)), HE⟩, by simp [intOf]; omega⟩
  by_cases k3 : nfc = nfr
  case neg =>
    have z0 : (ck != 2) = false := by simpa using k1
    have z2 : ((ca : Int) != rc) = false := by simpa using k2
    have z1 : (nfc != nfr) = true := by simpa using k3
    have HE : Hid (returnedT p k (i + 1) (T, false) = (Ti, m0)) := Lib.hid (HST.out.trans (if_neg (fun h => k3 (HRC.out.1 h).2.2)))
    clear k3
    go_quiet (fail)
    go_wp2_with fail
    exact ⟨⟨i + 1, m0, Ti, by omega, by go_num, rfl, hkVU.drewN _, Lib.hid (TU.out.kept0 ((Kept.refl [] U).drewN _)), HE⟩, by simp [intOf]; omega⟩
  have HS2 : Hid (returnedT p k (i + 1) (T, false) = retJ p k i (gf p.fl i).length (Ti, m0)) := Lib.hid (HST.out.trans (if_pos (HRC.out.2 ⟨k1, k2, k3⟩)))
  go_cut [64] (fun s wx => s = .bool false ∧ Kept [] U wx)
  case first =>
    have z0 : (ck != 2) = false := by simpa using k1
    have z2 : ((ca : Int) != rc) = false := by simpa using k2
    have z3 : (nfc != nfr) = false := by simpa using k3
    clear k1 k2 k3
    go_quiet (fail)
    go_wp2_with fail
    go_meet
    exact ⟨rfl, (Kept.refl [] U).drewN _⟩
  case rest =>
  obtain ⟨rfl, hkc⟩ := hcut
  clear C0U F0U CpU FpU CrU FrU CcU FcU f1 f2 k1 k2 k3
  have hkVc : Kept X V wc := hkVU.next hkc (by simp)
  have HBC : Hid (Below w0.heap.size w0 wc) := Lib.hid (hBU.trans (hkc.toBelow.mono hBU.size))
  have TC := Lib.hid (TU.out.kept0 hkc)
  have B0C := hkc.blk (by simp) B0U
  have ⟨L0C, C0C, F0C⟩ := B0C
  have BpC := hkc.blk (by simp) BpU
  have ⟨LpC, CpC, FpC⟩ := BpC
  have BrC := hkc.blk (by simp) BrU
  have ⟨LrC, CrC, FrC⟩ := BrC
  have BcC := hkc.blk (by simp) BcU
  have ⟨LcC, CcC, FcC⟩ := BcC
  obtain ⟨Ai, ni, ci, fi1, -, fi3⟩ := HCF.out i hlt
  have HI1 := Lib.hid fi1
  have HIP := Lib.hid fi3
  have HIL := Lib.hid fi3.1
  have hni : ni ≤ 8192 := by have := (HP.out.ok.fl i (by rw [HP.out.fl.1]; exact hlt)).1; have := fi3.1; omega
  have HXC : Hid (∀ y, wc.heap.size ≤ y → y ∉ X) := Lib.hid (fun y hy => HXV.out y (by have := hkVc.size; omega))
  clear fi1 fi3
  go_wp2_with fail
  go_loopw [6, 10] (fun s6 s10 wq => ∃ (j : Nat) (m : Bool) (Tj : Nat → Nat → Nat → Bool), j ≤ ni ∧ s10 = .int .i64 j ∧ s6 = .bool m ∧ Kept X wc wq ∧ Hid (TabM N F X bs r wq Tj) ∧ Hid (retJ p k i j (Ti, m0) = (Tj, m))) (fun _ s10 _ => ni - (intOf s10).toNat)
  case atStart => exact ⟨0, m0, Ti, Nat.zero_le _, rfl, rfl, Kept.refl _ _, TC, Lib.hid rfl⟩
  case round =>
  rename World => wq
  clear C0C F0C CpC FpC CrC FrC CcC FcC
  obtain ⟨j, m1, Tj, hj, rfl, rfl, hkq, TQ, HSJ⟩ := hrel
  have B0Q := hkq.blk hX0 B0C
  have ⟨L0Q, C0Q, F0Q⟩ := B0Q
  have BpQ := hkq.blk hXp BpC
  have ⟨LpQ, CpQ, FpQ⟩ := BpQ
  have BrQ := hkq.blk hXr BrC
  have ⟨LrQ, CrQ, FrQ⟩ := BrQ
  have BcQ := hkq.blk hXc BcC
  have ⟨LcQ, CcQ, FcQ⟩ := BcQ
  have hBq : Below w0.heap.size w0 wq := Kept.below HBC.out HBC.out.size HX.out hkq
  have lfq : bf < wq.heap.size := Nat.lt_of_lt_of_le hlf hBq.size
  have fiq := (hBq.cell (p := ⟨bf, _, none⟩) hlf).trans HI1.out
  by_cases hltj : j < ni
  case neg =>
    obtain rfl : j = ni := by omega
    have HE : Hid (returnedT p k (i + 1) (T, false) = (Tj, m1)) := Lib.hid (by rw [HS2.out, HIL.out, HSJ.out])
    go_wp2_with fail
    exact ⟨⟨i + 1, m1, Tj, by omega, by go_num, rfl, hkVc.next hkq (fun y hy => .inl hy), TQ, HE⟩, by simp [intOf]; omega⟩
  obtain ⟨qb, qo0, rfl, hlq, hcq⟩ := (HIP.out.later hBq).2 (by omega)
  obtain ⟨h1, h2⟩ := hcq j hltj
  obtain ⟨qi, qo, eqj, hqi, hqo⟩ := HP.out.pair (k := i) (i := j) hlt (by rw [HIL.out]; exact hltj)
  rw [eqj] at h1 h2
  have HEQ := Lib.hid eqj
  have hj9 : (j : Int) < (ni : Int) := by omega
  clear hcq eqj
  go_upto_region 13 with fail
  refine wp_named (fun Y => ∃ g, wq.heap.size = g ∧ Blk Y g [.int .i64 qi, .int .i64 qo] ∧ Kept [] wq Y) ⟨_, rfl, Blk.new _ _ _ _ rfl, (Kept.refl _ _).alloc _⟩ ?_
  rintro Y ⟨bq, eq_, Bq, hkY⟩
  rw [eq_]
  have hXq : bq ∉ X := HXC.out bq (by have := hkq.size; omega)
  have BqY := Bq
  have ⟨LqY, CqY, FqY⟩ := BqY
  clear C0Q F0Q CpQ FpQ CrQ FrQ CcQ FcQ h1 h2 eq_ Bq fiq
  have B0Y := hkY.blk (by simp) B0Q
  have ⟨L0Y, C0Y, F0Y⟩ := B0Y
  have BpY := hkY.blk (by simp) BpQ
  have ⟨LpY, CpY, FpY⟩ := BpY
  have BrY := hkY.blk (by simp) BrQ
  have ⟨LrY, CrY, FrY⟩ := BrY
  have BcY := hkY.blk (by simp) BcQ
  have ⟨LcY, CcY, FcY⟩ := BcY
  have HBY : Hid (Below w0.heap.size w0 Y) := Lib.hid (hBq.trans (hkY.toBelow.mono hBq.size))
  have TY := Lib.hid (TQ.out.kept0 hkY)
  have hkcY : Kept X wc Y := hkq.next hkY (by simp)
  have HXY : Hid (∀ y, Y.heap.size ≤ y → y ∉ X) := Lib.hid (fun y hy => HXC.out y (by have := hkcY.size; omega))
  go_wp2_with fail
  go_loopw [6, 12] (fun s6 s12 wz => ∃ (mm : Nat) (m : Bool) (Tm : Nat → Nat → Nat → Bool), mm ≤ nk ∧ s12 = .int .i64 mm ∧ s6 = .bool m ∧ Kept X Y wz ∧ Hid (TabM N F X bs r wz Tm) ∧ Hid (retM p k i j mm (Tj, m1) = (Tm, m))) (fun _ s12 _ => nk - (intOf s12).toNat)
  case atStart => exact ⟨0, m1, Tj, Nat.zero_le _, rfl, rfl, Kept.refl _ _, TY, Lib.hid rfl⟩
  case round =>
  rename World => wz
  clear C0Y F0Y CpY FpY CrY FrY CcY FcY CqY FqY
  obtain ⟨mm, m2, Tm, hmm, rfl, rfl, hkz, TZ0, HSM⟩ := hrel
  have B0Z := hkz.blk hX0 B0Y
  have ⟨L0Z, C0Z, F0Z⟩ := B0Z
  have BpZ := hkz.blk hXp BpY
  have ⟨LpZ, CpZ, FpZ⟩ := BpZ
  have BrZ := hkz.blk hXr BrY
  have ⟨LrZ, CrZ, FrZ⟩ := BrZ
  have BcZ := hkz.blk hXc BcY
  have ⟨LcZ, CcZ, FcZ⟩ := BcZ
  have BqZ := hkz.blk hXq BqY
  have ⟨LqZ, CqZ, FqZ⟩ := BqZ
  have hBz : Below w0.heap.size w0 wz := Kept.below HBY.out HBY.out.size HX.out hkz
  have lfz : bf < wz.heap.size := Nat.lt_of_lt_of_le hlf hBz.size
  have fkz := (hBz.cell (p := ⟨bf, _, none⟩) hlf).trans HK1.out
  have hkcz : Kept X wc wz := hkcY.next hkz (fun y hy => .inl hy)
  by_cases hltm : mm < nk
  case neg =>
    obtain rfl : mm = nk := by omega
    have HE : Hid (retJ p k i (j + 1) (Ti, m0) = (Tm, m2)) := by
      show _ = _
      have h9 := HSJ.out
      have h8 := HSM.out
      unfold retJ at h9 ⊢
      rw [If.up, h9, HKL.out, h8]
    go_wp2_with fail
    exact ⟨⟨j + 1, m2, Tm, by omega, by go_num, rfl, hkcz, TZ0, HE⟩, by simp [intOf]; omega⟩
  obtain ⟨sb, so0, rfl, hls, hcs⟩ := (HKP.out.later hBz).2 (by omega)
  obtain ⟨h1, h2⟩ := hcs mm hltm
  obtain ⟨si, so, esm, hsi, hso⟩ := HP.out.pair (k := k) (i := mm) hk (by rw [HKL.out]; exact hltm)
  rw [esm] at h1 h2
  have HES2 := Lib.hid esm
  have hm9 : (mm : Int) < (nk : Int) := by omega
  clear hcs esm
  go_upto_region 17 with fail
  refine wp_named (fun S => ∃ g, wz.heap.size = g ∧ Blk S g [.int .i64 si, .int .i64 so] ∧ Kept [] wz S) ⟨_, rfl, Blk.new _ _ _ _ rfl, (Kept.refl _ _).alloc _⟩ ?_
  rintro S ⟨bs9, es9, Bs9, hkS⟩
  rw [es9]
  have BsS := Bs9
  have ⟨LsS, CsS, FsS⟩ := BsS
  clear C0Z F0Z CpZ FpZ CrZ FrZ CcZ FcZ CqZ FqZ h1 h2 es9 Bs9 fkz
  have B0S := hkS.blk (by simp) B0Z
  have ⟨L0S, C0S, F0S⟩ := B0S
  have BpS := hkS.blk (by simp) BpZ
  have ⟨LpS, CpS, FpS⟩ := BpS
  have BrS := hkS.blk (by simp) BrZ
  have ⟨LrS, CrS, FrS⟩ := BrS
  have BcS := hkS.blk (by simp) BcZ
  have ⟨LcS, CcS, FcS⟩ := BcS
  have BqS := hkS.blk (by simp) BqZ
  have ⟨LqS, CqS, FqS⟩ := BqS
  have hBS : Below w0.heap.size w0 S := hBz.trans (hkS.toBelow.mono hBz.size)
  have TS := Lib.hid (TZ0.out.kept0 hkS)
  have hkYS : Kept X Y S := hkz.next hkS (by simp)
  have HS9 : Hid (retM p k i j (mm + 1) (Tj, m1) = if Tm ra qo si = true then throughT ca rb qi so F (Tm, m2) else (Tm, m2)) := by
    show _ = _
    have h9 := HSM.out
    unfold retM at h9 ⊢
    rw [If.up, h9, HEN.out, HEI.out, HEQ.out, HES2.out, HFN.out]
    rfl
  cases hv1 : Tm ra qo si with
  | false =>
    have HV1 := Lib.hid hv1
    have HE : Hid (retM p k i j (mm + 1) (Tj, m1) = (Tm, m2)) := Lib.hid (HS9.out.trans (hp_f hv1))
    clear hv1
    go_wp2_with (go_at_call 149; refine (rdoes_is c1 c2 c3 c4 c qo ra si false _ TS.out hN8 hF8 hra hqo hsi HV1.out).mono ?_; rintro e w3 ⟨rfl, hb3⟩; have ⟨hc3, hf3, hg3⟩ := bcell hb3)
    exact ⟨⟨mm + 1, m2, Tm, by omega, by go_num, rfl, hkYS.call hb3, Lib.hid (TS.out.later hb3), HE⟩, by simp [intOf]; omega⟩
  | true =>
    have HV1 := Lib.hid hv1
    obtain ⟨T9, b9, h9⟩ : ∃ T9 b9, throughT ca rb qi so F (Tm, false) = (T9, b9) := ⟨_, _, rfl⟩
    have HE : Hid (retM p k i j (mm + 1) (Tj, m1) = (T9, m2 || b9)) := Lib.hid (by rw [HS9.out, if_pos hv1, through_lin ca rb qi so F Tm m2, h9])
    have H9 := Lib.hid h9
    clear hv1 h9
    cases b9 with
    | false =>
      go_wp2_with (first
        | (go_at_call 149; refine (rdoes_is c1 c2 c3 c4 c qo ra si true _ TS.out hN8 hF8 hra hqo hsi HV1.out).mono ?_; rintro e w3 ⟨rfl, hb3⟩; have ⟨hc3, hf3, hg3⟩ := bcell hb3)
        | (go_at_call 150; refine (rthrough_any ca rb qi so c1 c2 c3 c4 c _ HP.out (hBS.trans (hb3.mono hBS.size)) HX.out (TS.out.later hb3) hca hrb hqi hso).mono ?_; rw [H9.out]; rintro e w4 ⟨rfl, hk4, ht4⟩))
      exact ⟨⟨mm + 1, m2, T9, by omega, by go_num, rfl, (hkYS.call hb3).next hk4 (fun y hy => .inl hy), Lib.hid ht4, Lib.hid (by rw [HE.out, Bool.or_false])⟩, by simp [intOf]; omega⟩
    | true =>
      go_wp2_with (first
        | (go_at_call 149; refine (rdoes_is c1 c2 c3 c4 c qo ra si true _ TS.out hN8 hF8 hra hqo hsi HV1.out).mono ?_; rintro e w3 ⟨rfl, hb3⟩; have ⟨hc3, hf3, hg3⟩ := bcell hb3)
        | (go_at_call 150; refine (rthrough_any ca rb qi so c1 c2 c3 c4 c _ HP.out (hBS.trans (hb3.mono hBS.size)) HX.out (TS.out.later hb3) hca hrb hqi hso).mono ?_; rw [H9.out]; rintro e w4 ⟨rfl, hk4, ht4⟩))
      exact ⟨⟨mm + 1, true, T9, by omega, by go_num, rfl, (hkYS.call hb3).next hk4 (fun y hy => .inl hy), Lib.hid ht4, Lib.hid (by rw [HE.out, Bool.or_true])⟩, by simp [intOf]; omega⟩
end Go.Proofs.YtmbihjlflcjlnaaGreat
/- The contracts of the reference's Close and Edges (printed by genKt.py). -/
namespace Go.Proofs.YtmbihjlflcjlnaaGreat
open Go.RowKit Go.Df Go.Df.If
attribute [local go_sem ↓] Go.wp_at_zero Go.wp_at_succ
variable {p : Pb} {N F mN : Nat} {A1 A2 A3 A4 : Option Addr} {n2 n3 n4 : Nat} {X : List Nat} {bs : Nat → Nat} {r : Nat} {w0 w : World} {T : Nat → Nat → Nat → Bool}
/-- Is it true? -/
def truthOf : Value → Nat | .bool true => 1 | _ => 0

set_option maxRecDepth 100000 in
set_option maxHeartbeats 8000000 in
theorem rclose_any (c1 c2 c3 c4 c : Nat) (w : World) (hP : PbW p N F mN A1 A2 A3 A4 n2 n3 n4 w0) (hb0 : Below w0.heap.size w0 w) (hX : ∀ x ∈ X, w0.heap.size ≤ x) (hT : TabM N F X bs r w T) (hN1 : 0 < N) (hsnd : SndT p (T, false)) (hmain : T p.mn.toNat 0 0 = true) :
    Calls Tryz.prog 65 #[.agg #[.slice A1 N c1, .slice A2 n2 c2, .int .i64 mN, .int .i64 (F : Nat), .slice A3 n3 c3, .slice A4 n4 c4, .int .i64 (F : Nat), .slice (some ⟨r, 0, none⟩) N c, .slice none 0 0, .bool false], .bool true] w fun e w' => e = .returned (.tuple #[]) ∧ Kept X w w' ∧ ∃ T', TabM N F X bs r w' T' ∧ ∀ n a d, T' n a d = true ↔ PE p a n d := by
  have HP := Lib.hid hP
  have HX := Lib.hid hX
  have hN8 := hP.N8
  have hF8 := hP.F8
  have hE8 : n2 ≤ 32768 := by have := (sup_parts hP.ok.sup).2.1; have := hP.ed.1; omega
  have HES := Lib.hid hP.ed.1
  have HSS := Lib.hid hP.sd.1
  have HXlt := Lib.hid hT.lt
  have HT := Lib.hid hT
  have HSN := Lib.hid hsnd
  have HMN := Lib.hid hmain
  have HFN := Lib.hid hP.Fn
  have hszw := hb0.size
  clear hP hX hT hsnd hmain
  go_enter Tryz.func65, Tryz.ntmps65
  go_upto_region 1 with fail
  refine wp_named (fun W => ∃ b0, w.heap.size = b0 ∧ Blk W b0 [.slice A1 N c1, .slice A2 n2 c2, .int .i64 mN, .int .i64 (F : Nat), .slice A3 n3 c3, .slice A4 n4 c4, .int .i64 (F : Nat), .slice (some ⟨r, 0, none⟩) N c, .slice none 0 0, .bool false] ∧ Below w.heap.size w W) ⟨_, rfl, ?_, ?_⟩ ?_
  · exact Blk.new _ _ _ _ (by first | rfl | simp)
  · go_grown
  rintro W ⟨b0, e0, B0, hB⟩
  rw [e0]
  have G0 : w.heap.size ≤ b0 := by omega
  clear e0
  have ⟨L0, C0, F0⟩ := B0
  have hX0 : b0 ∉ X := fun h => by have := HXlt.out _ h; omega
  have HXW : Hid (∀ y, W.heap.size ≤ y → y ∉ X) := fun y hy h => by have := HXlt.out _ h; have := hB.size; omega
  have HBW : Hid (Below w0.heap.size w0 W) := Lib.hid (hb0.trans (hB.mono hszw))
  go_upto_region 3 with fail
  refine wp_named (fun V => ∃ g, W.heap.size = g ∧ Blk V g [.slice A1 N c1, .slice A2 n2 c2, .int .i64 mN, .int .i64 (F : Nat), .slice A3 n3 c3, .slice A4 n4 c4] ∧ Kept [] W V) ⟨_, rfl, Blk.new _ _ _ _ rfl, (Kept.refl _ _).alloc _⟩ ?_
  rintro V ⟨bp, ep, Bp, hkV⟩
  rw [ep]
  have hXp : bp ∉ X := HXW.out bp (by omega)
  have HBV : Hid (Below w0.heap.size w0 V) := Lib.hid (HBW.out.trans (hkV.toBelow.mono HBW.out.size))
  have HwV : Hid (Kept [] w V) := Lib.hid (((Kept.refl [] w).call hB).next hkV (by simp))
  have TV := Lib.hid (HT.out.kept0 HwV.out)
  have B0V := hkV.blk (by simp) B0
  have BpV := Bp
  clear C0 F0 ep Bp
  obtain ⟨PM, hPM⟩ : ∃ PM : Nat → World → Prop, PM = fun u wr => ∃ T, TabM N F X bs r wr T ∧ SndT p (T, false) ∧ T p.mn.toNat 0 0 = true ∧ unhT p T = u := ⟨_, rfl⟩
  have HPM := Lib.hid hPM
  have hPM0 : Hid (∃ u, PM u V) := Lib.hid (by rw [hPM]; exact ⟨_, T, TV.out, HSN.out, HMN.out, rfl⟩)
  clear hPM
  go_wp2_with fail
  go_loopw [5] (fun s5 wr => ∃ (m : Bool), s5 = .bool m ∧ Kept X V wr ∧ Hid (m = true → ∃ u, PM u wr) ∧ Hid (m = false → ∃ T', TabM N F X bs r wr T' ∧ ∀ n a d, T' n a d = true ↔ PE p a n d)) (fun s5 wr => 2 * leastM PM wr + truthOf s5)
  case atStart => exact ⟨true, rfl, Kept.refl _ _, Lib.hid (fun _ => hPM0.out), Lib.hid (fun h => by cases h)⟩
  case round =>
  obtain ⟨m, rfl, hkr, hex, hdone⟩ := hrel
  have B0r := hkr.blk hX0 B0V
  have Bpr := hkr.blk hXp BpV
  have ⟨L0r, C0r, F0r⟩ := B0r
  have ⟨Lpr, Cpr, Fpr⟩ := Bpr
  have hBr : Below w0.heap.size w0 wr := Kept.below HBV.out HBV.out.size HX.out hkr
  cases m with
  | false =>
    have HD := Lib.hid (hdone.out rfl)
    clear hdone hex
    go_wp2_with fail
    go_end0
    exact ⟨rfl, (keptWide HwV.out (by simp)).next hkr (fun y hy => .inl hy), HD.out⟩
  | true =>
  have hsp := leastM_spec (hex.out rfl)
  obtain ⟨lv, hlv⟩ : ∃ lv, leastM PM wr = lv := ⟨_, rfl⟩
  rw [hlv] at hsp
  have HLV := Lib.hid hlv
  rw [show PM = _ from HPM.out] at hsp
  obtain ⟨T0, hT0, hs0, hm0, hu0⟩ := hsp
  have TR := Lib.hid hT0
  have HS0 := Lib.hid hs0
  have HM0 := Lib.hid hm0
  have HU0 := Lib.hid hu0
  obtain ⟨T1, m1, h1⟩ : ∃ T1 m1, seededT p n4 (T0, false) = (T1, m1) := ⟨_, _, rfl⟩
  have H1 := Lib.hid h1
  clear hlv hT0 hs0 hm0 hu0 h1 hex hdone
  go_upto_region 5 with (go_at_call 110; refine (rseeded_any c1 c2 c3 c4 c _ HP.out hBr HX.out TR.out).mono ?_; rw [H1.out]; rintro e w1 ⟨rfl, hk1, ht1⟩)
  have hkV1 : Kept X V w1 := hkr.next hk1 (fun y hy => .inl hy)
  have B01 := hk1.blk hX0 B0r
  have Bp1 := hk1.blk hXp Bpr
  have ⟨L01, C01, F01⟩ := B01
  have ⟨Lp1, Cp1, Fp1⟩ := Bp1
  have HB1 : Hid (Below w0.heap.size w0 w1) := Lib.hid (Kept.below HBV.out HBV.out.size HX.out hkV1)
  have TW1 := Lib.hid ht1
  clear C0r F0r Cpr Fpr ht1
  go_wp2_with fail
  go_loopw [5, 6] (fun s5 s6 wq => ∃ (k : Nat) (mk : Bool) (Tk : Nat → Nat → Nat → Bool), k ≤ n2 ∧ s6 = .int .i64 k ∧ s5 = .bool mk ∧ Kept X w1 wq ∧ Hid (TabM N F X bs r wq Tk) ∧ Hid (roundE p k (T1, m1) = (Tk, mk))) (fun _ s6 _ => n2 - (intOf s6).toNat)
  case atStart => exact ⟨0, m1, T1, Nat.zero_le _, rfl, rfl, Kept.refl _ _, TW1, Lib.hid rfl⟩
  case round =>
  rename World => wq
  clear C01 F01 Cp1 Fp1
  obtain ⟨k, mk, Tk, hk, rfl, rfl, hkq, TQ, HRk⟩ := hrel
  have ⟨L0q, C0q, F0q⟩ := hkq.blk hX0 B01
  have ⟨Lpq, Cpq, Fpq⟩ := hkq.blk hXp Bp1
  have hBq : Below w0.heap.size w0 wq := Kept.below HB1.out HB1.out.size HX.out hkq
  by_cases hlt : k < n2
  case neg =>
    obtain rfl : k = n2 := by omega
    have HRT : Hid (roundT p T0 = (Tk, mk)) := Lib.hid (by unfold roundT; rw [HES.out, HSS.out, H1.out, HRk.out])
    have hkVq : Kept X V wq := hkV1.next hkq (fun y hy => .inl hy)
    have hsk : SndT p (Tk, false) := fun n a d h => by
      have := round_snd HP.out.ok HS0.out n a d
      rw [HRT.out] at this
      exact this h
    have hrl := round_rl HP.out.ok T0
    rw [HRT.out] at hrl
    have hmk' : Tk p.mn.toNat 0 0 = true := hrl.le _ _ _ HM0.out
    have hPMk : PM (unhT p Tk) wq := by rw [show PM = _ from HPM.out]; exact ⟨Tk, TQ.out, hsk, hmk', rfl⟩
    have hle := leastM_le hPMk
    have HLE := Lib.hid hle
    have HPK := Lib.hid hPMk
    have HRL := Lib.hid hrl
    have HSK := Lib.hid hsk
    clear hle hPMk hsk hrl hmk'
    cases mk with
    | true =>
      have hlt' : unhT p Tk < unhT p T0 := by have h9 := round_unh HP.out.ok (T := T0) (by rw [HRT.out]); rw [HRT.out] at h9; exact h9
      have HLT := Lib.hid hlt'
      clear hlt'
      go_wp2_with fail
      refine ⟨⟨true, rfl, hkVq, Lib.hid (fun _ => ⟨_, HPK.out⟩), Lib.hid (fun h => by cases h)⟩, ?_⟩
      have h1 := HLE.out; have h2 := HLT.out; have h3 := HU0.out; have h4 := HLV.out
      simp only [truthOf]
      omega
    | false =>
      have hTk : Tk = T0 := by have h9 := HRL.out.fl rfl; injection h9
      have hclo : Clo p fun a n d => T0 n a d = true := round_clo HP.out.ok HM0.out HS0.out (by rw [HRT.out])
      have HFIN : Hid (∀ n a d, Tk n a d = true ↔ PE p a n d) := Lib.hid (fun n a d => ⟨HSK.out n a d, fun h => by rw [hTk]; exact hclo.all h⟩)
      have HUK : Hid (unhT p Tk = unhT p T0) := Lib.hid (by rw [hTk])
      clear hTk hclo
      go_wp2_with fail
      refine ⟨⟨false, rfl, hkVq, Lib.hid (fun h => by cases h), Lib.hid (fun _ => ⟨Tk, TQ.out, HFIN.out⟩)⟩, ?_⟩
      have h1 := HLE.out; have h2 := HUK.out; have h3 := HU0.out; have h4 := HLV.out
      simp only [truthOf]
      omega
  have hk9 : (k : Int) < (n2 : Int) := by omega
  obtain ⟨be, oe, rfl, hle, hce⟩ := HP.out.ed.2 (by omega)
  obtain ⟨ea, eb, ek, ec, en, hea, heb, hek1, hek5⟩ := HP.out.edge hlt
  have e3 := (hBq.cell (p := ⟨be, _, none⟩) hle).trans (hce k hlt).2.2.1
  rw [en] at e3
  have hleq : be < wq.heap.size := Nat.lt_of_lt_of_le hle hBq.size
  have HEN := Lib.hid en
  have HRK : Hid (roundE p (k + 1) (T1, m1) = edgeT p k (Tk, mk)) := by
    show _ = _
    have h9 := HRk.out
    unfold roundE at h9 ⊢
    rw [If.up, h9]
  have HEE : Hid (∀ s, edgeT p k s = if ek = 1 ∨ ek = 5 then passedT p k F s else if ek = 2 then enteredT p k F s else returnedT p k n2 s) := Lib.hid (fun s => by
    unfold edgeT
    rw [HEN.out, HFN.out, HES.out])
  clear hce en
  by_cases k1 : ek = 1 ∨ ek = 5
  · have HE9 : Hid (∀ s, edgeT p k s = passedT p k F s) := Lib.hid (fun s => by rw [HEE.out, if_pos k1])
    clear HEE hek1 hek5
    rcases k1 with rfl | rfl
    all_goals
      obtain ⟨T9, b9, h9⟩ : ∃ T9 b9, passedT p k F (Tk, false) = (T9, b9) := ⟨_, _, rfl⟩
      have HE : Hid (roundE p (k + 1) (T1, m1) = (T9, mk || b9)) := Lib.hid (by rw [HRK.out, HE9.out, passed_lin p k F Tk mk, h9])
      have H9 := Lib.hid h9
      clear h9
      cases mk <;> cases b9
      · go_wp2_with (go_at_call 111; refine (rpassed_any k c1 c2 c3 c4 c _ HP.out hBq HX.out TQ.out hlt).mono ?_; rw [H9.out]; rintro e w4 ⟨rfl, hk4, ht4⟩)
        exact ⟨⟨k + 1, false, T9, by omega, by go_num, rfl, hkq.next hk4 (fun y hy => .inl hy), Lib.hid ht4, HE⟩, by simp [intOf]; omega⟩
      · go_wp2_with (go_at_call 111; refine (rpassed_any k c1 c2 c3 c4 c _ HP.out hBq HX.out TQ.out hlt).mono ?_; rw [H9.out]; rintro e w4 ⟨rfl, hk4, ht4⟩)
        exact ⟨⟨k + 1, true, T9, by omega, by go_num, rfl, hkq.next hk4 (fun y hy => .inl hy), Lib.hid ht4, HE⟩, by simp [intOf]; omega⟩
      · go_wp2_with (go_at_call 111; refine (rpassed_any k c1 c2 c3 c4 c _ HP.out hBq HX.out TQ.out hlt).mono ?_; rw [H9.out]; rintro e w4 ⟨rfl, hk4, ht4⟩)
        exact ⟨⟨k + 1, true, T9, by omega, by go_num, rfl, hkq.next hk4 (fun y hy => .inl hy), Lib.hid ht4, HE⟩, by simp [intOf]; omega⟩
      · go_wp2_with (go_at_call 111; refine (rpassed_any k c1 c2 c3 c4 c _ HP.out hBq HX.out TQ.out hlt).mono ?_; rw [H9.out]; rintro e w4 ⟨rfl, hk4, ht4⟩)
        exact ⟨⟨k + 1, true, T9, by omega, by go_num, rfl, hkq.next hk4 (fun y hy => .inl hy), Lib.hid ht4, HE⟩, by simp [intOf]; omega⟩
  by_cases k2 : ek = 2
  · have HE9 : Hid (∀ s, edgeT p k s = enteredT p k F s) := Lib.hid (fun s => by rw [HEE.out, if_neg k1, if_pos k2])
    subst k2
    clear HEE hek1 hek5 k1
    obtain ⟨T9, b9, h9⟩ : ∃ T9 b9, enteredT p k F (Tk, false) = (T9, b9) := ⟨_, _, rfl⟩
    have HE : Hid (roundE p (k + 1) (T1, m1) = (T9, mk || b9)) := Lib.hid (by rw [HRK.out, HE9.out, entered_lin p k F Tk mk, h9])
    have H9 := Lib.hid h9
    clear h9
    cases mk <;> cases b9
    · go_wp2_with (go_at_call 112; refine (rentered_any k c1 c2 c3 c4 c _ HP.out hBq HX.out TQ.out hlt).mono ?_; rw [H9.out]; rintro e w4 ⟨rfl, hk4, ht4⟩)
      exact ⟨⟨k + 1, false, T9, by omega, by go_num, rfl, hkq.next hk4 (fun y hy => .inl hy), Lib.hid ht4, HE⟩, by simp [intOf]; omega⟩
    · go_wp2_with (go_at_call 112; refine (rentered_any k c1 c2 c3 c4 c _ HP.out hBq HX.out TQ.out hlt).mono ?_; rw [H9.out]; rintro e w4 ⟨rfl, hk4, ht4⟩)
      exact ⟨⟨k + 1, true, T9, by omega, by go_num, rfl, hkq.next hk4 (fun y hy => .inl hy), Lib.hid ht4, HE⟩, by simp [intOf]; omega⟩
    · go_wp2_with (go_at_call 112; refine (rentered_any k c1 c2 c3 c4 c _ HP.out hBq HX.out TQ.out hlt).mono ?_; rw [H9.out]; rintro e w4 ⟨rfl, hk4, ht4⟩)
      exact ⟨⟨k + 1, true, T9, by omega, by go_num, rfl, hkq.next hk4 (fun y hy => .inl hy), Lib.hid ht4, HE⟩, by simp [intOf]; omega⟩
    · go_wp2_with (go_at_call 112; refine (rentered_any k c1 c2 c3 c4 c _ HP.out hBq HX.out TQ.out hlt).mono ?_; rw [H9.out]; rintro e w4 ⟨rfl, hk4, ht4⟩)
      exact ⟨⟨k + 1, true, T9, by omega, by go_num, rfl, hkq.next hk4 (fun y hy => .inl hy), Lib.hid ht4, HE⟩, by simp [intOf]; omega⟩
  have HE9 : Hid (∀ s, edgeT p k s = returnedT p k n2 s) := Lib.hid (fun s => by rw [HEE.out, if_neg k1, if_neg k2])
  have z1 : (ek == 1) = false := by simp; omega
  have z2 : (ek == 5) = false := by simp; omega
  have z3 : (ek == 2) = false := by simp; omega
  clear HEE hek1 hek5 k1 k2
  obtain ⟨T9, b9, h9⟩ : ∃ T9 b9, returnedT p k n2 (Tk, false) = (T9, b9) := ⟨_, _, rfl⟩
  have HE : Hid (roundE p (k + 1) (T1, m1) = (T9, mk || b9)) := Lib.hid (by rw [HRK.out, HE9.out, returned_lin p k n2 Tk mk, h9])
  have H9 := Lib.hid h9
  clear h9
  cases mk <;> cases b9
  · go_wp2_with (go_at_call 113; refine (rreturned_any k c1 c2 c3 c4 c _ HP.out hBq HX.out TQ.out hlt hN1).mono ?_; rw [H9.out]; rintro e w4 ⟨rfl, hk4, ht4⟩)
    exact ⟨⟨k + 1, false, T9, by omega, by go_num, rfl, hkq.next hk4 (fun y hy => .inl hy), Lib.hid ht4, HE⟩, by simp [intOf]; omega⟩
  · go_wp2_with (go_at_call 113; refine (rreturned_any k c1 c2 c3 c4 c _ HP.out hBq HX.out TQ.out hlt hN1).mono ?_; rw [H9.out]; rintro e w4 ⟨rfl, hk4, ht4⟩)
    exact ⟨⟨k + 1, true, T9, by omega, by go_num, rfl, hkq.next hk4 (fun y hy => .inl hy), Lib.hid ht4, HE⟩, by simp [intOf]; omega⟩
  · go_wp2_with (go_at_call 113; refine (rreturned_any k c1 c2 c3 c4 c _ HP.out hBq HX.out TQ.out hlt hN1).mono ?_; rw [H9.out]; rintro e w4 ⟨rfl, hk4, ht4⟩)
    exact ⟨⟨k + 1, true, T9, by omega, by go_num, rfl, hkq.next hk4 (fun y hy => .inl hy), Lib.hid ht4, HE⟩, by simp [intOf]; omega⟩
  · go_wp2_with (go_at_call 113; refine (rreturned_any k c1 c2 c3 c4 c _ HP.out hBq HX.out TQ.out hlt hN1).mono ?_; rw [H9.out]; rintro e w4 ⟨rfl, hk4, ht4⟩)
    exact ⟨⟨k + 1, true, T9, by omega, by go_num, rfl, hkq.next hk4 (fun y hy => .inl hy), Lib.hid ht4, HE⟩, by simp [intOf]; omega⟩

set_option maxRecDepth 100000 in
set_option maxHeartbeats 8000000 in
theorem redges_any (c1 c2 c3 c4 : Nat) (w : World) (hP : PbW p N F mN A1 A2 A3 A4 n2 n3 n4 w) :
    Calls Tryz.prog 27 #[.agg #[.slice A1 N c1, .slice A2 n2 c2, .int .i64 mN, .int .i64 (F : Nat), .slice A3 n3 c3, .slice A4 n4 c4]] w fun e w' => ∃ X bs r c T, e = .returned (tabV N F r c) ∧ TabM N F X bs r w' T ∧ (∀ n a d, T n a d = true ↔ PE p a n d) ∧ Below w.heap.size w w' := by
  have hN8 := hP.N8
  have hF8 := hP.F8
  have hF1 := hP.F1
  have hm := main_in (sup_parts hP.ok.sup).2.2.1
  have hmN : mN < N := by have := hP.hm; have := hP.nd.1; omega
  have HMT : Hid (p.mn.toNat = mN) := Lib.hid (by rw [hP.hm]; rfl)
  have HP := Lib.hid hP
  clear hP hm
  go_enter Tryz.func27, Tryz.ntmps27
  go_upto_region 1 with fail
  refine wp_named (fun W => ∃ b0 b1, w.heap.size = b0 ∧ w.heap.size + 1 = b1 ∧ Blk W b0 [.slice A1 N c1, .slice A2 n2 c2, .int .i64 mN, .int .i64 (F : Nat), .slice A3 n3 c3, .slice A4 n4 c4] ∧ Blk W b1 [.int .i64 0, .slice none 0 0] ∧ Below w.heap.size w W) ⟨_, _, rfl, rfl, ?_, ?_, ?_⟩ ?_
  · exact (Blk.new _ _ _ _ (by first | rfl | simp)).alloc _
  · exact Blk.new _ _ _ _ (by first | rfl | simp)
  · go_grown
  rintro W ⟨b0, b1, e0, e1, B0, B1, hB⟩
  rw [e1, e0]
  have G0 : w.heap.size ≤ b0 := by omega
  have n01 : b0 ≠ b1 := by omega
  have G1 : w.heap.size ≤ b1 := by omega
  have n10 : b1 ≠ b0 := by omega
  clear e0 e1
  have ⟨L0, C0, F0⟩ := B0
  have ⟨L1, C1, F1⟩ := B1
  have HPW := Lib.hid (HP.out.later hB)
  go_upto_region 2 with (go_at_call 63; refine (rempty_any A1 A2 A3 A4 N c1 n2 c2 n3 c3 n4 c4 mN F _ (by omega) hN8 hF1 hF8).mono ?_; rintro e w1 ⟨X, bs, r, c, rfl, ht1, hX1, hr1, hb1⟩)
  have T1 := Lib.hid ht1
  have HX1 := Lib.hid hX1
  refine wp_named (fun V => ∃ g, w1.heap.size = g ∧ Blk V g [.int .i64 (F : Nat), .slice (some ⟨r, 0, none⟩) N c] ∧ Kept [] w1 V) ⟨_, rfl, Blk.new _ _ _ _ rfl, (Kept.refl _ _).alloc _⟩ ?_
  rintro V ⟨g, eg, Bg, hkV⟩
  rw [eg]
  have hkWV : Kept [] W V := ((Kept.refl [] W).call hb1).next hkV (by simp)
  have TV := Lib.hid (ht1.kept0 hkV)
  have B0V := hkWV.blk (by simp) B0
  have B1V := hkWV.blk (by simp) B1
  have ⟨L0V, C0V, F0V⟩ := B0V
  have ⟨LGV, CGV, FGV⟩ := Bg
  have hXg : g ∉ X := fun h => by have := ht1.lt _ h; omega
  have hX0 : b0 ∉ X := fun h => by have := hX1 _ h; have := L0; omega
  have hX9 : b1 ∉ X := fun h => by have := hX1 _ h; have := L1; omega
  clear C0 F0 C1 F1 ht1 hX1 eg
  go_upto_region 3 with (go_at_call 64; refine (rtput_is c 0 mN 0 false _ TV.out hN8 hF8 hmN hF1 hF1 rfl).mono ?_; rintro e w2 ⟨rfl, hk2, ht2⟩)
  obtain ⟨T2, hT2⟩ : ∃ T2, (putT ((fun _ _ _ => false : Nat → Nat → Nat → Bool), false) mN 0 0).1 = T2 := ⟨_, rfl⟩
  rw [hT2] at ht2
  have HT2 := Lib.hid hT2
  have T2M := Lib.hid ht2
  have hkW2 : Kept [] W w2 := kept_fresh hkWV hk2 HX1.out
  have B02 := hk2.blk hX0 B0V
  have Bg2 := hk2.blk hXg Bg
  have B12 := hk2.blk hX9 B1V
  have ⟨L02, C02, F02⟩ := B02
  have ⟨LG2, CG2, FG2⟩ := Bg2
  have HSND : Hid (SndT p (T2, false)) := Lib.hid (by
    rw [← HT2.out]
    intro n a d h
    unfold putT at h
    simp at h
    obtain ⟨rfl, rfl, rfl⟩ := h
    rw [← HMT.out]
    exact .main)
  have HMAIN : Hid (T2 p.mn.toNat 0 0 = true) := Lib.hid (by rw [← HT2.out, HMT.out]; unfold putT; simp)
  clear C0V F0V CGV FGV ht2 hT2
  go_upto_region 4 with (go_at_call 65; refine (rclose_any c1 c2 c3 c4 c _ HPW.out hkW2.toBelow HX1.out T2M.out (by omega) HSND.out HMAIN.out).mono ?_; rintro e w3 ⟨rfl, hk3, T3, ht3, hpe⟩)
  have hkW3 : Kept [] W w3 := kept_fresh hkW2 hk3 HX1.out
  have Bg3 := hk3.blk hXg Bg2
  have B13 := hk3.blk hX9 B12
  have ⟨LG3, CG3, FG3⟩ := Bg3
  have ⟨L13, C13, F13⟩ := B13
  have T3M := Lib.hid ht3
  have HPE := Lib.hid hpe
  have hb1r : b1 ≠ r := by have h3 := L1; omega
  clear C02 F02 CG2 FG2 ht3 hpe
  go_wp2_with fail
  refine retNamedT (fun Y => Blk Y b1 [.int .i64 (F : Nat), .slice (some ⟨r, 0, none⟩) N c] ∧ Kept [b1] w3 Y) ⟨(B13.set 0 _).set 1 _, ((Kept.refl [b1] w3).set b1 0 _ (.inl (by simp))).set b1 1 _ (.inl (by simp))⟩ ?_
  rintro Y ⟨BY, hkY⟩
  have ⟨LY, CY, FY⟩ := BY
  have hkw3 : Kept [] w w3 := ((Kept.refl [] w).call hB).next hkW3 (by simp)
  refine bodyPost_ret (by simp [results, Tryz.results27, go_sem, CY]; try rfl) rfl ?_
  exact ⟨X, bs, r, c, T3, rfl, T3M.out.kept hkY (by simpa using hb1r.symm) (fun x hx h => hX9 (by rw [List.mem_singleton] at h; rw [← h]; exact hx)), HPE.out, (kept_fresh hkw3 hkY (by simpa using G1)).toBelow⟩
end Go.Proofs.YtmbihjlflcjlnaaGreat
