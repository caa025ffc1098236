/- The contract of vpath's follow. -/
import Derived.Test.YtmbihjlflcjlnaaVa
namespace Go.Df
open Go.RowKit
/-- A box of three cells is none of the list's. -/
theorem Pend.set {w w' : World} {g : Nat} {x y z : Value} (hg : Blk w g [x, y, z]) (hk : Kept [g] w w') : ∀ (cs : List Int) {p : Option Addr}, Pend w p cs → Pend w' p cs
  | [], _, h => h
  | _ :: r, _, ⟨b, q, e, hb, h⟩ => ⟨b, q, e, hk.blk (by
      simp only [List.mem_singleton]
      rintro rfl
      have h1 := hg.2.1 2
      rw [hb.2.1 2] at h1
      simp at h1) hb, Pend.set hg hk r h⟩
theorem Sp.chk_ok {ns : List Sp.Nd} {es : List Sp.Ed} {m fr : Int} (h : Sp.chkErr ns es m fr = 0) : Sp.superErr ns es m = 0 ∧ 0 ≤ fr ∧ fr < ns.length := by
  unfold Sp.chkErr at h
  split at h
  · rename_i h1; exact absurd h h1
  · rename_i h1
    split at h
    · cases h
    · exact ⟨Classical.not_not.mp h1, by omega, by omega⟩
theorem Sp.super_len {ns : List Sp.Nd} {es : List Sp.Ed} {m : Int} (h : Sp.superErr ns es m = 0) : ns.length ≤ 8192 ∧ es.length ≤ 32768 := by
  unfold Sp.superErr at h
  split at h
  · cases h
  · omega
theorem kept_set3 (w : World) (g : Nat) (x y z : Value) : Kept [g] w (((w.setCell ⟨g, 0, none⟩ x).setCell ⟨g, 1, none⟩ y).setCell ⟨g, 2, none⟩ z) :=
  (((Kept.refl [g] w).set g 0 x (.inl (by simp))).set g 1 y (.inl (by simp))).set g 2 z (.inl (by simp))
end Go.Df
namespace Go.Proofs.Ytmbihjlflcjlnaa
open Go.RowKit Go.Df
attribute [local go_sem ↓] Go.wp_at_zero Go.wp_at_succ

set_option maxRecDepth 100000 in
set_option maxHeartbeats 2000000 in
theorem follow_any (A1 A2 A3 : Option Addr) (n1 c1 n2 c2 n3 c3 : Nat) (mn fr : Int) (ns : List Sp.Nd) (es : List Sp.Ed) (path : List Int) (w : World) (hn : Nds w A1 n1 ns) (he : Eds w A2 n2 es)
    (hwn : ∀ j, j < n1 → (Lit.int .i64 (gn ns j).f).wf = true) (hwe : ∀ j, j < n2 → (Lit.int .i64 (ge es j).a).wf = true ∧ (Lit.int .i64 (ge es j).b).wf = true) (hp : Ints w A3 n3 path) :
    Calls Try.prog 16 #[.agg #[.slice A1 n1 c1, .slice A2 n2 c2, .int .i64 mn], .int .i64 fr, .slice A3 n3 c3] w fun e w' =>
      ∃ P', e = .returned (.tuple #[.agg #[.slice none 0 0, .int .i64 (Sp.followS ns es mn fr path).2.1, .pointer P'], .int .i64 (Sp.followS ns es mn fr path).1]) ∧ Pend w' P' (Sp.followS ns es mn fr path).2.2 ∧ Below w.heap.size w w' := by
  have HN := Lib.hid hn
  have HE := Lib.hid he
  have HLe := Lib.hid he.1
  have HWN := Lib.hid hwn
  have HWE := Lib.hid hwe
  have HP := Lib.hid hp
  have HLp := Lib.hid hp.1
  clear hn he hwn hwe hp
  go_enter Try.func16, Try.ntmps16
  go_upto_region 1 with fail
  refine wp_named (fun W => ∃ b0 b1, w.heap.size = b0 ∧ w.heap.size + 1 = b1 ∧ Blk W b0 [.slice A1 n1 c1, .slice A2 n2 c2, .int .i64 mn] ∧ Blk W b1 [.slice none 0 0, .int .i64 0, .pointer none] ∧ Below w.heap.size w W) ⟨_, _, rfl, rfl, ?_, ?_, ?_⟩ ?_
  · exact (Blk.new _ _ _ _ (by first | rfl | simp)).alloc _
  · exact Blk.new _ _ _ _ (by first | rfl | simp)
  · go_grown
  rintro W ⟨b0, b1, e0, e1, B0, B1, hB⟩
  rw [e1, e0]
  have G0 : w.heap.size ≤ b0 := by omega
  have n01 : b0 ≠ b1 := by omega
  have G1 : w.heap.size ≤ b1 := by omega
  have n10 : b1 ≠ b0 := by omega
  clear e0 e1
  have ⟨L0, C0, F0⟩ := B0
  have ⟨L1, C1, F1⟩ := B1
  go_wp2_with fail
  refine (vcheck_any _ _ _ _ _ _ _ _ ns es _ (HN.out.later hB) (HE.out.later hB) HWN.out HWE.out).mono ?_
  rintro e w1 ⟨rfl, hb1⟩
  have hk1 : Kept [] W w1 := (Kept.refl _ _).call hb1
  have hB1 := hk1.below hB hB.size (by simp)
  have BA := hk1.blk (by simp) B0
  have ⟨LA, CA, FA⟩ := BA
  have BB := hk1.blk (by simp) B1
  have ⟨LB, CB, FB⟩ := BB
  clear C0 F0 C1 F1
  obtain ⟨se, hse⟩ : ∃ x, Sp.chkErr ns es mn fr = x := ⟨_, rfl⟩
  rw [hse]
  have HC : Hid (Sp.followS ns es mn fr path = if se ≠ 0 then (se, 0, []) else if 4096 < n3 then (3, 0, []) else Sp.runS es fr [] path) := by
    show Sp.followS ns es mn fr path = _
    unfold Sp.followS
    rw [hse, HLp.out]
  have HCE := Lib.hid hse
  clear hse
  by_cases h0 : se = 0
  case neg =>
    have h0' : (se != 0) = true := by simpa using h0
    have HS := Lib.hid (HC.out.trans (if_pos h0))
    clear h0
    go_wp2_with fail
    try simp only [Exit.inBlock, Exit.then]
    refine post_named (fun X => Blk X b1 [.slice none 0 0, .int .i64 0, .pointer none] ∧ Kept [b1] w1 X) ⟨?_, ?_⟩ ?_
    · (repeat' first | (with_reducible assumption) | (with_reducible refine Blk.set3 ?_) | (with_reducible exact Blk.n (by assumption) rfl) | (with_reducible refine BlkN.drewN ?_ _) | (with_reducible refine BlkN.alloc ?_ _) | (with_reducible refine Blk.alloc ?_ _))
    · (repeat' first | (with_reducible assumption) | (with_reducible exact Kept.refl _ _) | (with_reducible refine Kept.alloc ?_ _) | (with_reducible refine Kept.call ?_ (by assumption)) | (with_reducible refine Kept.set ?_ _ _ _ (Or.inl (by simp))) | (with_reducible refine Kept.drew ?_) | (with_reducible refine Kept.drewN ?_ _))
    rintro X ⟨BX, hkX⟩
    have ⟨LX, CX, FX⟩ := BX
    have hBX := hkX.below hB1 hB1.size (by simp; omega)
    refine bodyPost_ret (by simp [results, Try.results16, go_sem, CX]; try rfl) rfl ?_
    rw [HS.out]
    exact ⟨none, rfl, rfl, hBX⟩
  have h0' : (se != 0) = false := by simpa using h0
  by_cases hl : 4096 < n3
  · have hl' : decide ((4096 : Int) < (n3 : Int)) = true := by simp; omega
    have HS := Lib.hid (HC.out.trans ((if_neg (not_not_intro h0)).trans (if_pos hl)))
    have HS0 := Lib.hid h0
    clear h0
    go_wp2_with fail
    try simp only [Exit.inBlock, Exit.then]
    refine post_named (fun X => Blk X b1 [.slice none 0 0, .int .i64 0, .pointer none] ∧ Kept [b1] w1 X) ⟨?_, ?_⟩ ?_
    · (repeat' first | (with_reducible assumption) | (with_reducible refine Blk.set3 ?_) | (with_reducible exact Blk.n (by assumption) rfl) | (with_reducible refine BlkN.drewN ?_ _) | (with_reducible refine BlkN.alloc ?_ _) | (with_reducible refine Blk.alloc ?_ _))
    · (repeat' first | (with_reducible assumption) | (with_reducible exact Kept.refl _ _) | (with_reducible refine Kept.alloc ?_ _) | (with_reducible refine Kept.call ?_ (by assumption)) | (with_reducible refine Kept.set ?_ _ _ _ (Or.inl (by simp))) | (with_reducible refine Kept.drew ?_) | (with_reducible refine Kept.drewN ?_ _))
    rintro X ⟨BX, hkX⟩
    have ⟨LX, CX, FX⟩ := BX
    have hBX := hkX.below hB1 hB1.size (by simp; omega)
    refine bodyPost_ret (by simp [results, Try.results16, go_sem, CX]; try rfl) rfl ?_
    rw [HS.out]
    exact ⟨none, rfl, rfl, hBX⟩
  have hl' : decide ((4096 : Int) < (n3 : Int)) = false := by simp; omega
  have HF := Lib.hid (HC.out.trans ((if_neg (not_not_intro h0)).trans (if_neg hl)))
  have hs2 : Hid (n2 ≤ 1000000) := by
    show n2 ≤ 1000000
    have h1 := HCE.out
    rw [h0] at h1
    have h2 := HLe.out
    have h3 := (Sp.super_len (Sp.chk_ok h1).1).2
    omega
  clear h0 HC
  go_upto_region 7 with fail
  refine wp_named (fun V => ∃ g, w1.heap.size = g ∧ Blk V g [.slice none 0 0, .int .i64 fr, .pointer none] ∧ Kept [] w1 V) ⟨_, rfl, Blk.new _ _ _ _ rfl, (Kept.refl _ _).alloc _⟩ ?_
  rintro V ⟨g, eg, Bg, hkV⟩
  rw [eg]
  have hkWV : Kept [] W V := keptTrans hk1 hkV
  have hBV := hkV.below hB1 hB1.size (by simp)
  have gb0 : b0 ≠ g := by omega
  have gb1 : b1 ≠ g := by omega
  have hgw : w.heap.size ≤ g := by have := hB1.size; omega
  clear CA FA CB FB eg
  go_wp2_with fail
  go_loopw [29] (fun i wr => ∃ (j : Nat) (a : Int) (cs : List Int) (P : Option Addr), j ≤ n3 ∧ i = .int .i64 j ∧ Kept [g] V wr ∧ Hid (Blk wr g [.slice none 0 0, .int .i64 a, .pointer P]) ∧ Hid (Pend wr P cs) ∧ Hid (Sp.followS ns es mn fr path = Sp.runS es a cs (path.drop j))) (fun i _ => n3 - (intOf i).toNat)
  case atStart => exact ⟨0, fr, [], none, Nat.zero_le _, rfl, Kept.refl _ _, Lib.hid Bg, Lib.hid rfl, HF⟩
  case round =>
    obtain ⟨j, a, cs, P, hj, rfl, hkr, bg, pd, hrun⟩ := hrel
    have hBr : Below w.heap.size w wr := hkr.below hBV hBV.size (by simp; omega)
    have BA := hkr.blk (by simp; omega) (hkWV.blk (by simp) B0)
    have ⟨LA, CA, FA⟩ := BA
    have BB := hkr.blk (by simp; omega) (hkWV.blk (by simp) B1)
    have ⟨LB, CB, FB⟩ := BB
    have ⟨LG, CG, FG⟩ := bg.out
    by_cases hlt : j < n3
    case neg =>
      obtain rfl : j = n3 := by omega
      clear hlt
      have HS : Hid (Sp.followS ns es mn fr path = (0, a, cs)) := by
        show Sp.followS ns es mn fr path = _
        rw [hrun.out, ← HLp.out, List.drop_length]
        rfl
      go_wp2_with fail
      try simp only [Exit.inBlock, Exit.then]
      refine post_named (fun X => Blk X b1 [.slice none 0 0, .int .i64 a, .pointer P] ∧ Kept [b1] wr X) ⟨?_, ?_⟩ ?_
      · (repeat' first | (with_reducible assumption) | (with_reducible refine Blk.set3 ?_) | (with_reducible exact Blk.n (by assumption) rfl) | (with_reducible refine BlkN.drewN ?_ _) | (with_reducible refine BlkN.alloc ?_ _) | (with_reducible refine Blk.alloc ?_ _))
      · (repeat' first | (with_reducible assumption) | (with_reducible exact Kept.refl _ _) | (with_reducible refine Kept.alloc ?_ _) | (with_reducible refine Kept.call ?_ (by assumption)) | (with_reducible refine Kept.set ?_ _ _ _ (Or.inl (by simp))) | (with_reducible refine Kept.drew ?_) | (with_reducible refine Kept.drewN ?_ _))
      rintro X ⟨BX, hkX⟩
      have ⟨LX, CX, FX⟩ := BX
      have hBX := hkX.below hBr hBr.size (by simp; omega)
      refine bodyPost_ret (by simp [results, Try.results16, go_sem, CX]; try rfl) rfl ?_
      rw [HS.out]
      exact ⟨P, rfl, Pend.set BB hkX cs pd.out, hBX⟩
    obtain ⟨pb, po, rfl, hpl, hpc⟩ := (HP.out.later hBr).2 (by omega)
    have pc := hpc j hlt
    clear hpc
    obtain ⟨k, hk⟩ : ∃ k, gi path j = k := ⟨_, rfl⟩
    rw [hk] at pc
    have HD : Hid (path.drop j = k :: path.drop (j + 1)) := by
      show _ = _
      rw [Sp.drop_gi (by rw [HLp.out]; exact hlt), hk]
    clear hk
    go_wp2_with fail
    refine (step_any _ _ P _ _ _ _ _ a k _ es cs _ (HE.out.later hBr) hs2.out pd.out).mono ?_
    obtain ⟨er, hs⟩ : ∃ er, Sp.stepS es a cs k = er := ⟨_, rfl⟩
    rw [hs]
    obtain ⟨er, a', cs'⟩ := er
    dsimp only
    rintro e w5 ⟨P', rfl, pd5, hb5⟩
    have hkr5 : Kept [] wr w5 := (Kept.refl _ _).call hb5
    have PD5 := Lib.hid pd5
    have BG5 := hkr5.blk (by simp) bg.out
    have BB5 := hkr5.blk (by simp) BB
    have HS5 := Lib.hid hs
    clear CA FA CB FB CG FG pd5 hs pc
    go_upto_region 11 with fail
    refine wp_named (fun Y => ∃ h, w5.heap.size = h ∧ Blk Y h [.slice none 0 0, .int .i64 a', .pointer P'] ∧ Kept [] w5 Y) ⟨_, rfl, Blk.new _ _ _ _ rfl, (Kept.refl _ _).alloc _⟩ ?_
    rintro Y ⟨h, eh, Bh, hkY⟩
    rw [eh]
    have hkrY : Kept [] wr Y := keptTrans hkr5 hkY
    have ⟨LH, CH, FH⟩ := Bh
    have BGY := hkY.blk (by simp) BG5
    have ⟨LGY, CGY, FGY⟩ := BGY
    have BBY := hkY.blk (by simp) BB5
    have ⟨LBY, CBY, FBY⟩ := BBY
    have hBY := hkrY.below hBr hBr.size (by simp)
    have PDY := Lib.hid (Pend.kept hkY cs' PD5.out)
    have hgh : g ≠ h := by have := hkr.size; have := hkr5.size; have := LG; omega
    have hbh : b1 ≠ h := by have := LB; have := hkr5.size; omega
    clear eh
    by_cases he0 : er = 0
    case neg =>
      have he' : (er != 0) = true := by simpa using he0
      have HS : Hid (Sp.followS ns es mn fr path = (er, 0, [])) := by
        show Sp.followS ns es mn fr path = _
        rw [hrun.out, HD.out, Sp.runS, HS5.out, if_pos he0]
      clear he0
      go_wp2_with fail
      try simp only [Exit.inBlock, Exit.then]
      refine post_named (fun X => Blk X b1 [.slice none 0 0, .int .i64 0, .pointer none] ∧ Kept [b1] Y X) ⟨?_, ?_⟩ ?_
      · (repeat' first | (with_reducible assumption) | (with_reducible refine Blk.set3 ?_) | (with_reducible exact Blk.n (by assumption) rfl) | (with_reducible refine BlkN.drewN ?_ _) | (with_reducible refine BlkN.alloc ?_ _) | (with_reducible refine Blk.alloc ?_ _))
      · (repeat' first | (with_reducible assumption) | (with_reducible exact Kept.refl _ _) | (with_reducible refine Kept.alloc ?_ _) | (with_reducible refine Kept.call ?_ (by assumption)) | (with_reducible refine Kept.set ?_ _ _ _ (Or.inl (by simp))) | (with_reducible refine Kept.drew ?_) | (with_reducible refine Kept.drewN ?_ _))
      rintro X ⟨BX, hkX⟩
      have ⟨LX, CX, FX⟩ := BX
      have hBX := hkX.below hBY hBY.size (by simp; omega)
      refine bodyPost_ret (by simp [results, Try.results16, go_sem, CX]; try rfl) rfl ?_
      rw [HS.out]
      exact ⟨none, rfl, rfl, hBX⟩
    have he' : (er != 0) = false := by simpa using he0
    have HR : Hid (Sp.followS ns es mn fr path = Sp.runS es a' cs' (path.drop (j + 1))) := by
      show Sp.followS ns es mn fr path = _
      rw [hrun.out, HD.out, Sp.runS, HS5.out, if_neg (not_not_intro he0)]
    clear he0
    have hkVY : Kept [g] V Y := hkr.next hkrY (by simp)
    go_wp2_with fail
    refine ⟨⟨j + 1, a', cs', P', by omega, by go_num, hkVY.next (kept_set3 _ _ _ _ _) (by simp), Lib.hid (Blk.set3 (BGY.n rfl)), Lib.hid (Pend.set BGY (kept_set3 _ _ _ _ _) cs' PDY.out), HR⟩, by simp [intOf]; omega⟩
end Go.Proofs.Ytmbihjlflcjlnaa
