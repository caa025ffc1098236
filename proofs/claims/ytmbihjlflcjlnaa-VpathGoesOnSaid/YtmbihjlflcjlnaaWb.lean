/- The contracts of the reference's start and Run. -/
import Derived.Test.YtmbihjlflcjlnaaWa
namespace Go.Df
theorem SIn.drewN' {w : World} {A : Option Addr} {n c : Nat} {xs : List Int} (h : SIn w A n c xs) : SIn w.drew A n c xs := h
/-- Where a path begins, or 0. -/
def Sp.atS (er fr : Int) : Int := if er = 0 then fr else 0
theorem Sp.step_len (es : List Sp.Ed) (a : Int) (cs : List Int) (k : Int) : (Sp.stepS es a cs k).2.2.length ≤ cs.length + 1 := by
  unfold Sp.stepS
  (repeat' split) <;> simp <;> omega
end Go.Df
namespace Go.Proofs.Ytmbihjlflcjlnaa
open Go.RowKit Go.Df
attribute [local go_sem ↓] Go.wp_at_zero Go.wp_at_succ

set_option maxRecDepth 100000 in
set_option maxHeartbeats 2000000 in
theorem rstart_any (A1 A2 : Option Addr) (n1 c1 n2 c2 : Nat) (mn fr : Int) (ns : List Sp.Nd) (es : List Sp.Ed) (er : Int) (her : Sp.chkErr ns es mn fr = er) (w : World) (hg : Gr w A1 n1 A2 n2 ns es) :
    Calls Try.prog 21 #[.agg #[.slice A1 n1 c1, .slice A2 n2 c2, .int .i64 mn], .int .i64 fr] w fun e w' =>
      e = .returned (.tuple #[.agg #[.int .i64 (Sp.atS er fr), .slice none 0 0], .int .i64 er]) ∧ Below w.heap.size w w' := by
  have HG := Lib.hid hg
  have HL := Lib.hid hg.nd.1
  have HER := Lib.hid her
  clear hg her
  go_enter Try.func21, Try.ntmps21
  go_upto_region 1 with fail
  refine wp_named (fun W => ∃ b0 b1, w.heap.size = b0 ∧ w.heap.size + 1 = b1 ∧ Blk W b0 [.slice A1 n1 c1, .slice A2 n2 c2, .int .i64 mn] ∧ Blk W b1 [.int .i64 0, .slice none 0 0] ∧ Below w.heap.size w W) ⟨_, _, rfl, rfl, ?_, ?_, ?_⟩ ?_
  · exact (Blk.new _ _ _ _ (by first | rfl | simp)).alloc _
  · exact Blk.new _ _ _ _ (by first | rfl | simp)
  · go_grown
  rintro W ⟨b0, b1, e0, e1, B0, B1, hB⟩
  rw [e1, e0]
  have G0 : w.heap.size ≤ b0 := by omega
  have n01 : b0 ≠ b1 := by omega
  have G1 : w.heap.size ≤ b1 := by omega
  have n10 : b1 ≠ b0 := by omega
  clear e0 e1
  have ⟨L0, C0, F0⟩ := B0
  have ⟨L1, C1, F1⟩ := B1
  go_wp2_with fail
  refine (rsuper_any _ _ _ _ _ _ _ ns es _ (HG.out.later hB).nd (HG.out.later hB).ed).mono ?_
  rintro e w1 ⟨rfl, hb1⟩
  have hk1 : Kept [] W w1 := (Kept.refl _ _).call hb1
  have hB1 := hk1.below hB hB.size (by simp)
  have BA := hk1.blk (by simp) B0
  have ⟨LA, CA, FA⟩ := BA
  have BB := hk1.blk (by simp) B1
  have ⟨LB, CB, FB⟩ := BB
  clear C0 F0 C1 F1
  obtain ⟨se, hse⟩ : ∃ x, Sp.superErr ns es mn = x := ⟨_, rfl⟩
  rw [hse]
  have HC : Hid (er = if se ≠ 0 then se else if fr < 0 ∨ (n1 : Int) ≤ fr then 4 else 0) := by
    show er = _
    rw [← HER.out]
    unfold Sp.chkErr
    rw [hse, HL.out]
  clear hse HER
  by_cases h0 : se = 0
  case neg =>
    have h0' : (se != 0) = true := by simpa using h0
    have HE2 : Hid (er = se) := HC.out.trans (if_pos h0)
    have H0 := Lib.hid h0
    clear h0
    go_wp2_with fail
    try simp only [Exit.inBlock, Exit.then]
    refine post_named (fun X => Blk X b1 [.int .i64 0, .slice none 0 0] ∧ Kept [b1] w1 X) ⟨?_, ?_⟩ ?_
    · (repeat' first | (with_reducible assumption) | (with_reducible refine Blk.drew ?_) | (with_reducible refine Blk.set2 ?_) | (with_reducible exact Blk.n (by assumption) rfl) | (with_reducible refine BlkN.drewN ?_ _) | (with_reducible refine BlkN.drew ?_) | (with_reducible refine BlkN.alloc ?_ _) | (with_reducible refine Blk.alloc ?_ _))
    · (repeat' first | (with_reducible assumption) | (with_reducible exact Kept.refl _ _) | (with_reducible refine Kept.alloc ?_ _) | (with_reducible refine Kept.call ?_ (by assumption)) | (with_reducible refine Kept.set ?_ _ _ _ (Or.inl (by simp))) | (with_reducible refine Kept.drew ?_) | (with_reducible refine Kept.drewN ?_ _))
    rintro X ⟨BX, hkX⟩
    have ⟨LX, CX, FX⟩ := BX
    have hBX := hkX.below hB1 hB1.size (by simp; omega)
    refine bodyPost_ret (by simp [results, Try.results21, go_sem, CX]; try rfl) rfl ?_
    rw [show er = se from HE2.out, Sp.atS, if_neg H0.out]
    exact ⟨rfl, hBX⟩
  have h0' : (se != 0) = false := by simpa using h0
  have H0 := Lib.hid h0
  clear h0
  by_cases h1 : fr < 0
  · have d1 : decide (fr < 0) = true := by simpa using h1
    have HE2 : Hid (er = 4) := by show _ = _; rw [HC.out, if_neg (not_not_intro H0.out), if_pos (by omega)]
    go_wp2_with fail
    try simp only [Exit.inBlock, Exit.then]
    refine post_named (fun X => Blk X b1 [.int .i64 0, .slice none 0 0] ∧ Kept [b1] w1 X) ⟨?_, ?_⟩ ?_
    · (repeat' first | (with_reducible assumption) | (with_reducible refine Blk.drew ?_) | (with_reducible refine Blk.set2 ?_) | (with_reducible exact Blk.n (by assumption) rfl) | (with_reducible refine BlkN.drewN ?_ _) | (with_reducible refine BlkN.drew ?_) | (with_reducible refine BlkN.alloc ?_ _) | (with_reducible refine Blk.alloc ?_ _))
    · (repeat' first | (with_reducible assumption) | (with_reducible exact Kept.refl _ _) | (with_reducible refine Kept.alloc ?_ _) | (with_reducible refine Kept.call ?_ (by assumption)) | (with_reducible refine Kept.set ?_ _ _ _ (Or.inl (by simp))) | (with_reducible refine Kept.drew ?_) | (with_reducible refine Kept.drewN ?_ _))
    rintro X ⟨BX, hkX⟩
    have ⟨LX, CX, FX⟩ := BX
    have hBX := hkX.below hB1 hB1.size (by simp; omega)
    refine bodyPost_ret (by simp [results, Try.results21, go_sem, CX]; try rfl) rfl ?_
    rw [show er = 4 from HE2.out, Sp.atS, if_neg (by omega)]
    exact ⟨rfl, hBX⟩
  have d1 : decide (fr < 0) = false := by simpa using h1
  by_cases h2 : (n1 : Int) ≤ fr
  · have d2 : decide ((n1 : Int) ≤ fr) = true := by simpa using h2
    have HE2 : Hid (er = 4) := by show _ = _; rw [HC.out, if_neg (not_not_intro H0.out), if_pos (by omega)]
    go_wp2_with fail
    try simp only [Exit.inBlock, Exit.then]
    refine post_named (fun X => Blk X b1 [.int .i64 0, .slice none 0 0] ∧ Kept [b1] w1 X) ⟨?_, ?_⟩ ?_
    · (repeat' first | (with_reducible assumption) | (with_reducible refine Blk.drew ?_) | (with_reducible refine Blk.set2 ?_) | (with_reducible exact Blk.n (by assumption) rfl) | (with_reducible refine BlkN.drewN ?_ _) | (with_reducible refine BlkN.drew ?_) | (with_reducible refine BlkN.alloc ?_ _) | (with_reducible refine Blk.alloc ?_ _))
    · (repeat' first | (with_reducible assumption) | (with_reducible exact Kept.refl _ _) | (with_reducible refine Kept.alloc ?_ _) | (with_reducible refine Kept.call ?_ (by assumption)) | (with_reducible refine Kept.set ?_ _ _ _ (Or.inl (by simp))) | (with_reducible refine Kept.drew ?_) | (with_reducible refine Kept.drewN ?_ _))
    rintro X ⟨BX, hkX⟩
    have ⟨LX, CX, FX⟩ := BX
    have hBX := hkX.below hB1 hB1.size (by simp; omega)
    refine bodyPost_ret (by simp [results, Try.results21, go_sem, CX]; try rfl) rfl ?_
    rw [show er = 4 from HE2.out, Sp.atS, if_neg (by omega)]
    exact ⟨rfl, hBX⟩
  have d2 : decide ((n1 : Int) ≤ fr) = false := by simpa using h2
  have HE2 : Hid (er = 0) := by show _ = _; rw [HC.out, if_neg (not_not_intro H0.out), if_neg (by omega)]
  go_wp2_with fail
  try simp only [Exit.inBlock, Exit.then]
  refine post_named (fun X => Blk X b1 [.int .i64 fr, .slice none 0 0] ∧ Kept [b1] w1 X) ⟨?_, ?_⟩ ?_
  · (repeat' first | (with_reducible assumption) | (with_reducible refine Blk.drew ?_) | (with_reducible refine Blk.set2 ?_) | (with_reducible exact Blk.n (by assumption) rfl) | (with_reducible refine BlkN.drewN ?_ _) | (with_reducible refine BlkN.drew ?_) | (with_reducible refine BlkN.alloc ?_ _) | (with_reducible refine Blk.alloc ?_ _))
  · (repeat' first | (with_reducible assumption) | (with_reducible exact Kept.refl _ _) | (with_reducible refine Kept.alloc ?_ _) | (with_reducible refine Kept.call ?_ (by assumption)) | (with_reducible refine Kept.set ?_ _ _ _ (Or.inl (by simp))) | (with_reducible refine Kept.drew ?_) | (with_reducible refine Kept.drewN ?_ _))
  rintro X ⟨BX, hkX⟩
  have ⟨LX, CX, FX⟩ := BX
  have hBX := hkX.below hB1 hB1.size (by simp; omega)
  refine bodyPost_ret (by simp [results, Try.results21, go_sem, CX]; try rfl) rfl ?_
  rw [show er = 0 from HE2.out, Sp.atS, if_pos rfl]
  exact ⟨rfl, hBX⟩

set_option maxRecDepth 100000 in
set_option maxHeartbeats 4000000 in
theorem rrun_any (A1 A2 A3 : Option Addr) (n1 c1 n2 c2 n3 c3 : Nat) (mn fr : Int) (ns : List Sp.Nd) (es : List Sp.Ed) (path : List Int) (w : World) (hg : Gr w A1 n1 A2 n2 ns es) (hp : Ints w A3 n3 path) :
    Calls Try.prog 11 #[.agg #[.slice A1 n1 c1, .slice A2 n2 c2, .int .i64 mn], .int .i64 fr, .slice A3 n3 c3] w fun e w' =>
      ∃ A n c, e = .returned (.tuple #[.agg #[.int .i64 (Sp.followS ns es mn fr path).2.1, .slice A n c], .int .i64 (Sp.followS ns es mn fr path).1]) ∧ SIn w' A n c (Sp.followS ns es mn fr path).2.2.reverse ∧ n ≤ 5000 ∧ Below w.heap.size w w' := by
  have HG := Lib.hid hg
  have HLe := Lib.hid hg.ed.1
  have HP := Lib.hid hp
  have HLp := Lib.hid hp.1
  clear hg hp
  go_enter Try.func11, Try.ntmps11
  go_upto_region 1 with fail
  refine wp_named (fun W => ∃ b0 b1, w.heap.size = b0 ∧ w.heap.size + 1 = b1 ∧ Blk W b0 [.slice A1 n1 c1, .slice A2 n2 c2, .int .i64 mn] ∧ Blk W b1 [.int .i64 0, .slice none 0 0] ∧ Below w.heap.size w W) ⟨_, _, rfl, rfl, ?_, ?_, ?_⟩ ?_
  · exact (Blk.new _ _ _ _ (by first | rfl | simp)).alloc _
  · exact Blk.new _ _ _ _ (by first | rfl | simp)
  · go_grown
  rintro W ⟨b0, b1, e0, e1, B0, B1, hB⟩
  rw [e1, e0]
  have G0 : w.heap.size ≤ b0 := by omega
  have n01 : b0 ≠ b1 := by omega
  have G1 : w.heap.size ≤ b1 := by omega
  have n10 : b1 ≠ b0 := by omega
  clear e0 e1
  have ⟨L0, C0, F0⟩ := B0
  have ⟨L1, C1, F1⟩ := B1
  obtain ⟨se, hse⟩ : ∃ x, Sp.chkErr ns es mn fr = x := ⟨_, rfl⟩
  have HSE := Lib.hid hse
  have HC : Hid (Sp.followS ns es mn fr path = if se ≠ 0 then (se, 0, []) else if 4096 < n3 then (3, 0, []) else Sp.runS es fr [] path) := by
    show Sp.followS ns es mn fr path = _
    unfold Sp.followS
    rw [hse, HLp.out]
  clear hse
  go_wp2_with fail
  refine (rstart_any _ _ _ _ _ _ _ _ ns es se HSE.out _ (HG.out.later hB)).mono ?_
  rintro e w1 ⟨rfl, hb1⟩
  obtain ⟨s0, hs0⟩ : ∃ x, Sp.atS se fr = x := ⟨_, rfl⟩
  rw [hs0]
  have HS0 := Lib.hid hs0
  clear hs0
  have hk1 : Kept [] W w1 := (Kept.refl _ _).call hb1
  have hB1 := hk1.below hB hB.size (by simp)
  go_upto_region 2 with fail
  refine wp_named (fun V => ∃ g, w1.heap.size = g ∧ Blk V g [.int .i64 s0, .slice none 0 0] ∧ Kept [] w1 V) ⟨_, rfl, Blk.new _ _ _ _ rfl, (Kept.refl _ _).alloc _⟩ ?_
  rintro V ⟨g, eg, Bg, hkV⟩
  rw [eg]
  have hkWV : Kept [] W V := keptTrans hk1 hkV
  have hBV := hkV.below hB1 hB1.size (by simp)
  have BB := hkWV.blk (by simp) B1
  have ⟨LB, CB, FB⟩ := BB
  have gb0 : b0 ≠ g := by have := hk1.size; omega
  have gb1 : b1 ≠ g := by have := hk1.size; omega
  have hgw : w.heap.size ≤ g := by have := hB1.size; omega
  clear C0 F0 C1 F1 eg
  by_cases h0 : se = 0
  case neg =>
    have h0' : (se != 0) = true := by simpa using h0
    have HS := Lib.hid (HC.out.trans (if_pos h0))
    clear h0
    go_wp2_with fail
    try simp only [Exit.inBlock, Exit.then]
    refine post_named (fun X => Blk X b1 [.int .i64 0, .slice none 0 0] ∧ Kept [b1] V X) ⟨?_, ?_⟩ ?_
    · (repeat' first | (with_reducible assumption) | (with_reducible refine Blk.drew ?_) | (with_reducible refine Blk.set2 ?_) | (with_reducible exact Blk.n (by assumption) rfl) | (with_reducible refine BlkN.drewN ?_ _) | (with_reducible refine BlkN.drew ?_) | (with_reducible refine BlkN.alloc ?_ _) | (with_reducible refine Blk.alloc ?_ _))
    · (repeat' first | (with_reducible assumption) | (with_reducible exact Kept.refl _ _) | (with_reducible refine Kept.alloc ?_ _) | (with_reducible refine Kept.call ?_ (by assumption)) | (with_reducible refine Kept.set ?_ _ _ _ (Or.inl (by simp))) | (with_reducible refine Kept.drew ?_) | (with_reducible refine Kept.drewN ?_ _))
    rintro X ⟨BX, hkX⟩
    have ⟨LX, CX, FX⟩ := BX
    have hBX := hkX.below hBV hBV.size (by simp; omega)
    refine bodyPost_ret (by simp [results, Try.results11, go_sem, CX]; try rfl) rfl ?_
    rw [HS.out]
    exact ⟨none, 0, 0, rfl, SIn.nil _, by omega, hBX⟩
  have h0' : (se != 0) = false := by simpa using h0
  by_cases hl : 4096 < n3
  · have hl' : decide ((4096 : Int) < (n3 : Int)) = true := by simp; omega
    have HS := Lib.hid (HC.out.trans ((if_neg (not_not_intro h0)).trans (if_pos hl)))
    have HS1 := Lib.hid h0
    clear h0
    go_wp2_with fail
    try simp only [Exit.inBlock, Exit.then]
    refine post_named (fun X => Blk X b1 [.int .i64 0, .slice none 0 0] ∧ Kept [b1] V X) ⟨?_, ?_⟩ ?_
    · (repeat' first | (with_reducible assumption) | (with_reducible refine Blk.drew ?_) | (with_reducible refine Blk.set2 ?_) | (with_reducible exact Blk.n (by assumption) rfl) | (with_reducible refine BlkN.drewN ?_ _) | (with_reducible refine BlkN.drew ?_) | (with_reducible refine BlkN.alloc ?_ _) | (with_reducible refine Blk.alloc ?_ _))
    · (repeat' first | (with_reducible assumption) | (with_reducible exact Kept.refl _ _) | (with_reducible refine Kept.alloc ?_ _) | (with_reducible refine Kept.call ?_ (by assumption)) | (with_reducible refine Kept.set ?_ _ _ _ (Or.inl (by simp))) | (with_reducible refine Kept.drew ?_) | (with_reducible refine Kept.drewN ?_ _))
    rintro X ⟨BX, hkX⟩
    have ⟨LX, CX, FX⟩ := BX
    have hBX := hkX.below hBV hBV.size (by simp; omega)
    refine bodyPost_ret (by simp [results, Try.results11, go_sem, CX]; try rfl) rfl ?_
    rw [HS.out]
    exact ⟨none, 0, 0, rfl, SIn.nil _, by omega, hBX⟩
  have hl' : decide ((4096 : Int) < (n3 : Int)) = false := by simp; omega
  have HF := Lib.hid (HC.out.trans ((if_neg (not_not_intro h0)).trans (if_neg hl)))
  have hs2 : Hid (n2 ≤ 1000000) := by
    show n2 ≤ 1000000
    have h1 := HSE.out
    rw [h0] at h1
    have h2 := HLe.out
    have h3 := (Sp.super_len (Sp.chk_ok h1).1).2
    omega
  obtain rfl : s0 = fr := by have := HS0.out; rw [Sp.atS, if_pos h0] at this; exact this.symm
  have hse0 := Lib.hid h0
  subst h0
  clear HC HS0
  go_wp2_with fail
  go_loopw [9, 10] (fun s9 i wr => ∃ (j : Nat) (a : Int) (cs : List Int) (A : Option Addr) (n c : Nat), j ≤ n3 ∧ s9 = .int .i64 0 ∧ i = .int .i64 j ∧ Kept [g] V wr ∧ Hid (Blk wr g [.int .i64 a, .slice A n c]) ∧ Hid (SIn wr A n c cs.reverse) ∧ Hid (∀ x, A = some x → x.block ≠ g ∧ x.block ≠ b1) ∧ n ≤ j ∧ Hid (Sp.followS ns es mn s0 path = Sp.runS es a cs (path.drop j))) (fun _ i _ => n3 - (intOf i).toNat)
  case atStart => exact ⟨0, s0, [], none, 0, 0, Nat.zero_le _, rfl, rfl, Kept.refl _ _, Lib.hid Bg, Lib.hid (SIn.nil _), Lib.hid (fun x hx => by cases hx), Nat.le_refl _, HF⟩
  case round =>
    obtain ⟨j, a, cs, A, n, c, hj, rfl, rfl, hkr, bg, sin, apt, hnj, hrun⟩ := hrel
    have hBr : Below w.heap.size w wr := hkr.below hBV hBV.size (by simp; omega)
    have BA := hkr.blk (by simp; omega) (hkWV.blk (by simp) B0)
    have ⟨LA, CA, FA⟩ := BA
    have BB := hkr.blk (by simp; omega) (hkWV.blk (by simp) B1)
    have ⟨LB2, CB2, FB2⟩ := BB
    have ⟨LG, CG, FG⟩ := bg.out
    have BG := bg.out
    clear CB FB
    by_cases hlt : j < n3
    case neg =>
      obtain rfl : j = n3 := by omega
      clear hlt
      have HS : Hid (Sp.followS ns es mn s0 path = (0, a, cs)) := by
        show Sp.followS ns es mn s0 path = _
        rw [hrun.out, ← HLp.out, List.drop_length]
        rfl
      go_wp2_with fail
      try simp only [Exit.inBlock, Exit.then]
      refine post_named (fun X => Blk X b1 [.int .i64 a, .slice A n c] ∧ Kept [b1] wr X) ⟨?_, ?_⟩ ?_
      · (repeat' first | (with_reducible assumption) | (with_reducible refine Blk.drew ?_) | (with_reducible refine Blk.set2 ?_) | (with_reducible exact Blk.n (by assumption) rfl) | (with_reducible refine BlkN.drewN ?_ _) | (with_reducible refine BlkN.drew ?_) | (with_reducible refine BlkN.alloc ?_ _) | (with_reducible refine Blk.alloc ?_ _))
      · (repeat' first | (with_reducible assumption) | (with_reducible exact Kept.refl _ _) | (with_reducible refine Kept.alloc ?_ _) | (with_reducible refine Kept.call ?_ (by assumption)) | (with_reducible refine Kept.set ?_ _ _ _ (Or.inl (by simp))) | (with_reducible refine Kept.drew ?_) | (with_reducible refine Kept.drewN ?_ _))
      rintro X ⟨BX, hkX⟩
      have ⟨LX, CX, FX⟩ := BX
      have hBX := hkX.below hBr hBr.size (by simp; omega)
      refine bodyPost_ret (by simp [results, Try.results11, go_sem, CX]; try rfl) rfl ?_
      rw [HS.out]
      exact ⟨A, n, c, rfl, sin.out.keptX hkX (fun _ x hx => by simpa using (apt.out x hx).2), by omega, hBX⟩
    obtain ⟨pb, po, rfl, hpl, hpc⟩ := HP.out.2 (by omega)
    have pc := (hBr.cell (p := ⟨pb, _, none⟩) hpl).trans (hpc j hlt)
    have hpg : pb ≠ g := by omega
    have hplr : pb < wr.heap.size := Nat.lt_of_lt_of_le hpl hBr.size
    clear hpc
    obtain ⟨k, hk⟩ : ∃ k, gi path j = k := ⟨_, rfl⟩
    rw [hk] at pc
    have HD : Hid (path.drop j = k :: path.drop (j + 1)) := by
      show _ = _
      rw [Sp.drop_gi (by rw [HLp.out]; exact hlt), hk]
    clear hk
    obtain ⟨⟨er, a', cs'⟩, hst⟩ : ∃ x, Sp.stepS es a cs k = x := ⟨_, rfl⟩
    have HST := Lib.hid hst
    have HSL : Hid (cs'.length ≤ cs.length + 1) := by
      show _ ≤ _
      have := Sp.step_len es a cs k
      rw [hst] at this
      exact this
    clear hst
    have HEr := Lib.hid ((HG.out.later hBr).ed)
    have SIr := sin
    have hn5 : n ≤ 1000000 := by omega
    have x3 : (j : Int) < (n3 : Int) := by omega
    go_upto_region 9 with fail
    go_cut [9] (fun s wx => s = .int .i64 er ∧ ∃ (A' : Option Addr) (n' c' : Nat), Blk wx g [.int .i64 a', .slice A' n' c'] ∧ SIn wx A' n' c' cs'.reverse ∧ (∀ x, A' = some x → x.block ≠ g ∧ x.block ≠ b1) ∧ Kept [g] wr wx)
    case first =>
      go_region_with (first | (go_at_call 22; ((with_reducible refine (rstep_any _ _ A _ _ _ _ n c _ a k es cs _ (HEr.out.kept (by (repeat' first | (with_reducible assumption) | (with_reducible exact Kept.refl _ _) | (with_reducible refine Kept.alloc ?_ _) | (with_reducible refine Kept.call ?_ (by assumption)) | (with_reducible refine Kept.set ?_ _ _ _ (Or.inr ?_)) | (with_reducible refine Kept.drew ?_) | (simp; done) | omega | (simp; omega)))) hs2.out (SIr.out.kept (by (repeat' first | (with_reducible assumption) | (with_reducible exact Kept.refl _ _) | (with_reducible refine Kept.alloc ?_ _) | (with_reducible refine Kept.call ?_ (by assumption)) | (with_reducible refine Kept.set ?_ _ _ _ (Or.inr ?_)) | (with_reducible refine Kept.drew ?_) | (simp; done) | omega | (simp; omega)))) hn5).mono ?_)); rw [HST.out]; rintro e w3 ⟨A', n', c', rfl, hi3, hfr3, hb3⟩; have HI3 := Lib.hid hi3; have HF3 := Lib.hid hfr3; clear hi3 hfr3; have hz3 := hb3.size; have BG3 : Blk w3 g [.int .i64 a, .slice A n c] := Blk.later (show Blk wr.drew g [.int .i64 a, .slice A n c] from BG) hb3; have ⟨LG3, CG3, FG3⟩ := BG3; have hn3' : BlkN w3 g 2 := BG3.n rfl; clear CG FG; have hkr3 : Kept [] wr w3 := Kept.call (by (repeat' first | (with_reducible assumption) | (with_reducible exact Kept.refl _ _) | (with_reducible refine Kept.alloc ?_ _) | (with_reducible refine Kept.call ?_ (by assumption)) | (with_reducible refine Kept.set ?_ _ _ _ (Or.inr ?_)) | (with_reducible refine Kept.drew ?_) | (simp; done) | omega | (simp; omega))) hb3; try simp at hz3))
      all_goals
        go_wp2_with fail
        go_meet
        have apt3 : ∀ x, A' = some x → x.block ≠ g ∧ x.block ≠ b1 := fun x hx => by
          rcases HF3.out x hx with ⟨a0, h1, h2⟩ | h1
          · rw [h2]; exact apt.out a0 h1
          · simp at h1; omega
        have apt4 : ∀ x, A' = some x → x.block ≠ g := fun x hx => (apt3 x hx).1
        refine ⟨rfl, A', n', c', ?_, ?_, apt3, ?_⟩
        · (repeat' first | (with_reducible assumption) | (with_reducible refine Blk.drew ?_) | (with_reducible refine Blk.set2 ?_) | (with_reducible exact Blk.n (by assumption) rfl) | (with_reducible refine BlkN.drewN ?_ _) | (with_reducible refine BlkN.drew ?_) | (with_reducible refine BlkN.alloc ?_ _) | (with_reducible refine Blk.alloc ?_ _))
        · repeat' first | (with_reducible assumption) | (with_reducible refine SIn.drewN' ?_) | (with_reducible refine SIn.two ?_ apt4) | exact HI3.out
        · have hkz : Kept [g] wr w3 := (Kept.refl _ _).next hkr3 (by simp)
          (repeat' first | (with_reducible assumption) | (with_reducible exact Kept.refl _ _) | (with_reducible refine Kept.alloc ?_ _) | (with_reducible refine Kept.call ?_ (by assumption)) | (with_reducible refine Kept.set ?_ _ _ _ (Or.inl (by simp))) | (with_reducible refine Kept.drew ?_) | (with_reducible refine Kept.drewN ?_ _))
    case rest =>
      obtain ⟨rfl, A', n', c', Bgc, sic, aptc, hkc⟩ := hcut
      have ⟨p0, p1, p2⟩ := Bgc
      have BBc := hkc.blk (by simp; omega) BB
      have ⟨p3, p4, p5⟩ := BBc
      have hkVc : Kept [g] V wc := hkr.next hkc (by simp)
      have hBc : Below w.heap.size w wc := hkVc.below hBV hBV.size (by simp; omega)
      have SIC := Lib.hid sic
      have APC := Lib.hid aptc
      have hn' : n' ≤ j + 1 := by have h1 := sic.1.1; have h2 := HSL.out; have h3 := sin.out.1.1; simp at h1 h3; omega
      clear CA FA CB2 FB2 CG FG sic aptc pc
      by_cases he0 : er = 0
      case neg =>
        have he' : (er != 0) = true := by simpa using he0
        have HS : Hid (Sp.followS ns es mn s0 path = (er, 0, [])) := by
          show Sp.followS ns es mn s0 path = _
          rw [hrun.out, HD.out, Sp.runS, HST.out, if_pos he0]
        clear he0
        go_wp2_with fail
        try simp only [Exit.inBlock, Exit.then]
        refine post_named (fun X => Blk X b1 [.int .i64 0, .slice none 0 0] ∧ Kept [b1] wc X) ⟨?_, ?_⟩ ?_
        · (repeat' first | (with_reducible assumption) | (with_reducible refine Blk.drew ?_) | (with_reducible refine Blk.set2 ?_) | (with_reducible exact Blk.n (by assumption) rfl) | (with_reducible refine BlkN.drewN ?_ _) | (with_reducible refine BlkN.drew ?_) | (with_reducible refine BlkN.alloc ?_ _) | (with_reducible refine Blk.alloc ?_ _))
        · (repeat' first | (with_reducible assumption) | (with_reducible exact Kept.refl _ _) | (with_reducible refine Kept.alloc ?_ _) | (with_reducible refine Kept.call ?_ (by assumption)) | (with_reducible refine Kept.set ?_ _ _ _ (Or.inl (by simp))) | (with_reducible refine Kept.drew ?_) | (with_reducible refine Kept.drewN ?_ _))
        rintro X ⟨BX, hkX⟩
        have ⟨LX, CX, FX⟩ := BX
        have hBX := hkX.below hBc hBc.size (by simp; omega)
        refine bodyPost_ret (by simp [results, Try.results11, go_sem, CX]; try rfl) rfl ?_
        rw [HS.out]
        exact ⟨none, 0, 0, rfl, SIn.nil _, by omega, hBX⟩
      have he' : (er != 0) = false := by simpa using he0
      have HR : Hid (Sp.followS ns es mn s0 path = Sp.runS es a' cs' (path.drop (j + 1))) := by
        show Sp.followS ns es mn s0 path = _
        rw [hrun.out, HD.out, Sp.runS, HST.out, if_neg (not_not_intro he0)]
      subst he0
      go_wp2_with fail
      exact ⟨⟨j + 1, a', cs', A', n', c', by omega, rfl, by go_num, hkVc, Lib.hid Bgc, SIC, APC, by omega, HR⟩, by simp [intOf]; omega⟩
end Go.Proofs.Ytmbihjlflcjlnaa
