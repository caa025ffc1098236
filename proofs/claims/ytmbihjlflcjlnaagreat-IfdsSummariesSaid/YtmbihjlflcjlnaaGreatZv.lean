/- A pack of texts: Vp Va Vb Vcz Lg. -/
import Derived.Test.YtmbihjlflcjlnaaGreatSm
import Derived.Test.YtmbihjlflcjlnaaGreatLr
/- Valid paths in plain words. -/
namespace Go.Df
open Go.RowKit
namespace Sp
/-- The error of a supergraph and a node of it. -/
def chkErr (ns : List Nd) (es : List Ed) (m fr : Int) : Int := if superErr ns es m ≠ 0 then superErr ns es m else if fr < 0 ∨ (ns.length : Int) ≤ fr then 4 else 0
/-- One edge further: an error, or 0 with the node and the pending calls (the last one first). -/
def stepS (es : List Ed) (at_ : Int) (cs : List Int) (k : Int) : Int × Int × List Int :=
  if k < 0 ∨ (es.length : Int) ≤ k then (4, 0, [])
  else if (ge es k.toNat).a ≠ at_ then (16, 0, [])
  else if (ge es k.toNat).k = 3 ∨ (ge es k.toNat).k = 4 then (if cs = [] ∨ gi cs 0 ≠ (ge es k.toNat).c then (20, 0, []) else (0, (ge es k.toNat).b, cs.tail))
  else if (ge es k.toNat).k = 2 then (0, (ge es k.toNat).b, at_ :: cs) else (0, (ge es k.toNat).b, cs)
/-- All edges of a path. -/
def runS (es : List Ed) : Int → List Int → List Int → Int × Int × List Int
  | a, cs, [] => (0, a, cs)
  | a, cs, k :: r => if (stepS es a cs k).1 ≠ 0 then ((stepS es a cs k).1, 0, []) else runS es (stepS es a cs k).2.1 (stepS es a cs k).2.2 r
def followS (ns : List Nd) (es : List Ed) (m fr : Int) (path : List Int) : Int × Int × List Int :=
  if chkErr ns es m fr ≠ 0 then (chkErr ns es m fr, 0, []) else if 4096 < path.length then (3, 0, []) else runS es fr [] path
theorem stepS_err {es : List Ed} {a k : Int} {cs : List Int} (h : (stepS es a cs k).1 ≠ 0) : stepS es a cs k = ((stepS es a cs k).1, 0, []) := by
  unfold stepS at *
  (repeat' split) <;> simp_all
theorem drop_gi {l : List Int} {j : Nat} (h : j < l.length) : l.drop j = gi l j :: l.drop (j + 1) := by
  rw [gi_lt h]
  exact List.drop_eq_getElem_cons h
end Sp
theorem BlkN.drewN {w : World} {b n : Nat} (h : BlkN w b n) (q : Nat) : BlkN (w.drewN q) b n := h
/-- The world at a return is named. -/
theorem post_named {P : Program} {f : Func} {Q : Ending → World → Prop} {e : Exit} {a : Act} {w : World} (S : World → Prop) (h0 : S w) (h : ∀ X, S X → bodyPost P f Q e a X) : bodyPost P f Q e a w := h w h0
/-- A list of pending calls in memory. -/
def Pend (w : World) : Option Addr → List Int → Prop
  | p, [] => p = none
  | p, c :: r => ∃ b q, p = some ⟨b, 0, none⟩ ∧ Blk w b [.int .i64 c, .pointer q] ∧ Pend w q r
theorem Pend.kept {w w' : World} (hk : Kept [] w w') : ∀ (cs : List Int) {p : Option Addr}, Pend w p cs → Pend w' p cs
  | [], _, h => h
  | _ :: r, _, ⟨b, q, e, hb, h⟩ => ⟨b, q, e, hk.blk (by simp) hb, Pend.kept hk r h⟩
theorem Pend.later {w w' : World} {cs : List Int} {p : Option Addr} (h : Pend w p cs) (hb : Below w.heap.size w w') : Pend w' p cs := Pend.kept ((Kept.refl _ _).call hb) cs h
end Go.Df
/- The contracts of vpath's returns, check and step. -/
namespace Go.Proofs.YtmbihjlflcjlnaaGreat
open Go.RowKit Go.Df
attribute [local go_sem ↓] Go.wp_at_zero Go.wp_at_succ

theorem returns_any (ea eb ek ec : Int) (v : Bool) (hv : v = (decide (ek = 3) || decide (ek = 4))) (w : World) :
    Calls Tryz.prog 180 #[.agg #[.int .i64 ea, .int .i64 eb, .int .i64 ek, .int .i64 ec]] w fun e w' => e = .returned (.bool v) ∧ Below w.heap.size w w' := by
  go_enter Tryz.func180, Tryz.ntmps180
  go_upto_region 1 with fail
  refine wp_named (fun W => ∃ b0, w.heap.size = b0 ∧ Blk W b0 [.int .i64 ea, .int .i64 eb, .int .i64 ek, .int .i64 ec] ∧ Below w.heap.size w W) ⟨_, rfl, ?_, ?_⟩ ?_
  · exact Blk.new _ _ _ _ (by first | rfl | simp)
  · go_grown
  rintro W ⟨b0, e0, B0, hB⟩
  rw [e0]
  have G0 : w.heap.size ≤ b0 := by omega
  clear e0
  have ⟨L0, C0, F0⟩ := B0
  obtain ⟨x3, h3⟩ : ∃ x, (ek == 3) = x := ⟨_, rfl⟩
  obtain ⟨x4, h4⟩ : ∃ x, (ek == 4) = x := ⟨_, rfl⟩
  have HV : Hid (v = (x3 || x4)) := by
    show v = _
    rw [hv, ← h3, ← h4, Bool.eq_iff_iff]; simp
  clear hv
  cases x3 with
  | true =>
    go_wp2_with fail
    go_ret
    exact ⟨ret_bool (by rw [HV.out]; rfl), hB⟩
  | false =>
    cases x4 with
    | true =>
      go_wp2_with fail
      go_ret
      exact ⟨ret_bool (by rw [HV.out]; rfl), hB⟩
    | false =>
      go_wp2_with fail
      go_ret
      exact ⟨ret_bool (by rw [HV.out]; rfl), hB⟩

set_option maxRecDepth 100000 in
set_option maxHeartbeats 1000000 in
theorem vcheck_any (A1 A2 : Option Addr) (n1 c1 n2 c2 : Nat) (mn fr : Int) (ns : List Sp.Nd) (es : List Sp.Ed) (w : World) (hn : Nds w A1 n1 ns) (he : Eds w A2 n2 es)
    (hwn : ∀ j, j < n1 → (Lit.int .i64 (gn ns j).f).wf = true) (hwe : ∀ j, j < n2 → (Lit.int .i64 (ge es j).a).wf = true ∧ (Lit.int .i64 (ge es j).b).wf = true) :
    Calls Tryz.prog 159 #[.agg #[.slice A1 n1 c1, .slice A2 n2 c2, .int .i64 mn], .int .i64 fr] w fun e w' => e = .returned (.int .i64 (Sp.chkErr ns es mn fr)) ∧ Below w.heap.size w w' := by
  have HN := Lib.hid hn
  have HL := Lib.hid hn.1
  have HE := Lib.hid he
  have HWN := Lib.hid hwn
  have HWE := Lib.hid hwe
  clear hn he hwn hwe
  go_enter Tryz.func159, Tryz.ntmps159
  go_upto_region 1 with fail
  refine wp_named (fun W => ∃ b0, w.heap.size = b0 ∧ Blk W b0 [.slice A1 n1 c1, .slice A2 n2 c2, .int .i64 mn] ∧ Below w.heap.size w W) ⟨_, rfl, ?_, ?_⟩ ?_
  · exact Blk.new _ _ _ _ (by first | rfl | simp)
  · go_grown
  rintro W ⟨b0, e0, B0, hB⟩
  rw [e0]
  have G0 : w.heap.size ≤ b0 := by omega
  clear e0
  have ⟨L0, C0, F0⟩ := B0
  go_wp2_with fail
  refine (super_any _ _ _ _ _ _ _ ns es _ (HN.out.later hB) (HE.out.later hB) HWN.out HWE.out).mono ?_
  rintro e w1 ⟨rfl, hb1⟩
  have hk1 : Kept [] W w1 := (Kept.refl _ _).call hb1
  have hB1 := hk1.below hB hB.size (by simp)
  have ⟨L1, C1, F1⟩ := hk1.blk (by simp) B0
  clear C0 F0
  obtain ⟨se, hse⟩ : ∃ x, Sp.superErr ns es mn = x := ⟨_, rfl⟩
  rw [hse]
  have HC : Hid (Sp.chkErr ns es mn fr = if se ≠ 0 then se else if fr < 0 ∨ (n1 : Int) ≤ fr then 4 else 0) := by
    show Sp.chkErr ns es mn fr = _
    unfold Sp.chkErr
    rw [hse, HL.out]
  clear hse
  by_cases h0 : se = 0
  · have h0' : (se != 0) = false := by simpa using h0
    have H0 := Lib.hid h0
    clear h0
    by_cases h1 : fr < 0
    · have d1 : decide (fr < 0) = true := by simpa using h1
      go_wp2_with fail
      go_ret
      exact ⟨ret_int (by rw [HC.out, H0.out, if_neg (by simp), if_pos (by omega)]), hB1⟩
    · have d1 : decide (fr < 0) = false := by simpa using h1
      by_cases h2 : (n1 : Int) ≤ fr
      · have d2 : decide ((n1 : Int) ≤ fr) = true := by simpa using h2
        go_wp2_with fail
        go_ret
        exact ⟨ret_int (by rw [HC.out, H0.out, if_neg (by simp), if_pos (by omega)]), hB1⟩
      · have d2 : decide ((n1 : Int) ≤ fr) = false := by simpa using h2
        go_wp2_with fail
        go_ret
        exact ⟨ret_int (by rw [HC.out, H0.out, if_neg (by simp), if_neg (by omega)]), hB1⟩
  · have h0' : (se != 0) = true := by simpa using h0
    have H0 := Lib.hid h0
    clear h0
    go_wp2_with fail
    go_ret
    exact ⟨ret_int (by rw [HC.out, if_pos H0.out]), hB1⟩

set_option maxRecDepth 100000 in
set_option maxHeartbeats 2000000 in
theorem step_any (A1 A2 P : Option Addr) (n1 c1 n2 c2 : Nat) (mn at_ k : Int) (S : Value) (es : List Sp.Ed) (cs : List Int) (w : World) (he : Eds w A2 n2 es) (hs : n2 ≤ 1000000) (hp : Pend w P cs) :
    Calls Tryz.prog 160 #[.agg #[.slice A1 n1 c1, .slice A2 n2 c2, .int .i64 mn], .agg #[S, .int .i64 at_, .pointer P], .int .i64 k] w fun e w' =>
      ∃ P', e = .returned (.tuple #[.agg #[.slice none 0 0, .int .i64 (Sp.stepS es at_ cs k).2.1, .pointer P'], .int .i64 (Sp.stepS es at_ cs k).1]) ∧ Pend w' P' (Sp.stepS es at_ cs k).2.2 ∧ Below w.heap.size w w' := by
  have HE := Lib.hid he
  have HL := Lib.hid he.1
  have HP := Lib.hid hp
  clear he hp
  go_enter Tryz.func160, Tryz.ntmps160
  go_upto_region 1 with fail
  refine wp_named (fun W => ∃ b0 b1 b2, w.heap.size = b0 ∧ w.heap.size + 1 = b1 ∧ w.heap.size + 1 + 1 = b2 ∧ Blk W b0 [.slice A1 n1 c1, .slice A2 n2 c2, .int .i64 mn] ∧ Blk W b1 [S, .int .i64 at_, .pointer P] ∧ Blk W b2 [.slice none 0 0, .int .i64 0, .pointer none] ∧ Below w.heap.size w W) ⟨_, _, _, rfl, rfl, rfl, ?_, ?_, ?_, ?_⟩ ?_
  · exact ((Blk.new _ _ _ _ (by first | rfl | simp)).alloc _).alloc _
  · exact (Blk.new _ _ _ _ (by first | rfl | simp)).alloc _
  · exact Blk.new _ _ _ _ (by first | rfl | simp)
  · go_grown
  rintro W ⟨b0, b1, b2, e0, e1, e2, B0, B1, B2, hB⟩
  rw [e2, e1, e0]
  have G0 : w.heap.size ≤ b0 := by omega
  have n01 : b0 ≠ b1 := by omega
  have n02 : b0 ≠ b2 := by omega
  have G1 : w.heap.size ≤ b1 := by omega
  have n10 : b1 ≠ b0 := by omega
  have n12 : b1 ≠ b2 := by omega
  have G2 : w.heap.size ≤ b2 := by omega
  have n20 : b2 ≠ b0 := by omega
  have n21 : b2 ≠ b1 := by omega
  clear e0 e1 e2
  have ⟨L0, C0, F0⟩ := B0
  have ⟨L1, C1, F1⟩ := B1
  have ⟨L2, C2, F2⟩ := B2
  by_cases hr1 : k < 0
  · have d1 : decide (k < 0) = true := by simpa using hr1
    have HS : Hid (Sp.stepS es at_ cs k = (4, 0, [])) := by
      show Sp.stepS es at_ cs k = _
      unfold Sp.stepS
      rw [HL.out, if_pos (by omega)]
    have hkX0 : Kept [b2] W W := Kept.refl _ _
    go_wp2_with fail
    try simp only [Exit.inBlock, Exit.then]
    refine post_named (fun X => Blk X b2 [.slice none 0 0, .int .i64 0, .pointer none] ∧ Kept [b2] W X) ⟨?_, ?_⟩ ?_
    · (repeat' first | (with_reducible assumption) | (with_reducible refine Blk.set3 ?_) | (with_reducible exact Blk.n (by assumption) rfl) | (with_reducible refine BlkN.drewN ?_ _) | (with_reducible refine BlkN.alloc ?_ _) | (with_reducible refine Blk.alloc ?_ _))
    · (repeat' first | (with_reducible assumption) | (with_reducible exact Kept.refl _ _) | (with_reducible refine Kept.alloc ?_ _) | (with_reducible refine Kept.call ?_ (by assumption)) | (with_reducible refine Kept.set ?_ _ _ _ (Or.inl (by simp))) | (with_reducible refine Kept.drew ?_) | (with_reducible refine Kept.drewN ?_ _) | (with_reducible exact hkX0))
    rintro X ⟨BX, hkX⟩
    have ⟨LX, CX, FX⟩ := BX
    have hBX := hkX.below hB hB.size (by simp; omega)
    refine bodyPost_ret (by simp [results, Tryz.results160, go_sem, CX]; try rfl) rfl ?_
    rw [HS.out]
    exact ⟨none, rfl, rfl, hBX⟩
  have da : decide (k < 0) = false := by simpa using hr1
  by_cases hr2 : (n2 : Int) ≤ k
  · have d1 : decide ((n2 : Int) ≤ k) = true := by simpa using hr2
    have HS : Hid (Sp.stepS es at_ cs k = (4, 0, [])) := by
      show Sp.stepS es at_ cs k = _
      unfold Sp.stepS
      rw [HL.out, if_pos (by omega)]
    have hkX0 : Kept [b2] W W := Kept.refl _ _
    go_wp2_with fail
    try simp only [Exit.inBlock, Exit.then]
    refine post_named (fun X => Blk X b2 [.slice none 0 0, .int .i64 0, .pointer none] ∧ Kept [b2] W X) ⟨?_, ?_⟩ ?_
    · (repeat' first | (with_reducible assumption) | (with_reducible refine Blk.set3 ?_) | (with_reducible exact Blk.n (by assumption) rfl) | (with_reducible refine BlkN.drewN ?_ _) | (with_reducible refine BlkN.alloc ?_ _) | (with_reducible refine Blk.alloc ?_ _))
    · (repeat' first | (with_reducible assumption) | (with_reducible exact Kept.refl _ _) | (with_reducible refine Kept.alloc ?_ _) | (with_reducible refine Kept.call ?_ (by assumption)) | (with_reducible refine Kept.set ?_ _ _ _ (Or.inl (by simp))) | (with_reducible refine Kept.drew ?_) | (with_reducible refine Kept.drewN ?_ _) | (with_reducible exact hkX0))
    rintro X ⟨BX, hkX⟩
    have ⟨LX, CX, FX⟩ := BX
    have hBX := hkX.below hB hB.size (by simp; omega)
    refine bodyPost_ret (by simp [results, Tryz.results160, go_sem, CX]; try rfl) rfl ?_
    rw [HS.out]
    exact ⟨none, rfl, rfl, hBX⟩
  have db : decide ((n2 : Int) ≤ k) = false := by simpa using hr2
  obtain ⟨x, rfl⟩ := Int.eq_ofNat_of_zero_le (show 0 ≤ k by omega)
  have hx : x < n2 := by omega
  obtain ⟨b, o, rfl, hl, hc⟩ := (HE.out.later hB).2 (by omega)
  obtain ⟨h1, h2, h3, h4⟩ := hc x hx
  clear hc
  obtain ⟨ea, eb, ek, ec, en⟩ : ∃ ea eb ek ec, ge es x = ⟨ea, eb, ek, ec⟩ := ⟨_, _, _, _, rfl⟩
  rw [en] at h1 h2 h3 h4
  have HF : Hid (Sp.stepS es at_ cs x = if ea ≠ at_ then (16, 0, []) else if ek = 3 ∨ ek = 4 then (if cs = [] ∨ gi cs 0 ≠ ec then (20, 0, []) else (0, eb, cs.tail)) else if ek = 2 then (0, eb, at_ :: cs) else (0, eb, cs)) := by
    show Sp.stepS es at_ cs x = _
    unfold Sp.stepS
    rw [HL.out, if_neg (by omega), Int.toNat_natCast, en]
  clear en
  go_upto_region 4 with fail
  refine wp_named (fun V => ∃ g, W.heap.size = g ∧ Blk V g [.int .i64 ea, .int .i64 eb, .int .i64 ek, .int .i64 ec] ∧ Kept [] W V) ⟨_, rfl, Blk.new _ _ _ _ rfl, (Kept.refl _ _).alloc _⟩ ?_
  rintro V ⟨g, eg, Bg, hkV⟩
  rw [eg]
  have ⟨LG, CG, FG⟩ := Bg
  have BV0 := hkV.blk (by simp) B0
  have ⟨LV0, CV0, FV0⟩ := BV0
  have BV1 := hkV.blk (by simp) B1
  have ⟨LV1, CV1, FV1⟩ := BV1
  have BV2 := hkV.blk (by simp) B2
  have ⟨LV2, CV2, FV2⟩ := BV2
  have g2 : g ≠ b2 := by omega
  have g1 : g ≠ b1 := by omega
  have hBV := hkV.below hB hB.size (by simp)
  clear C0 F0 C1 F1 C2 F2 h1 h2 h3 h4 eg
  have hkX0 : Kept [b2] W V := (Kept.refl _ _).next hkV (by simp)
  by_cases ha : ea = at_
  case neg =>
    have ha' : (ea != at_) = true := by simpa using ha
    have HS := Lib.hid (HF.out.trans (if_pos ha))
    clear ha
    go_wp2_with fail
    try simp only [Exit.inBlock, Exit.then]
    refine post_named (fun X => Blk X b2 [.slice none 0 0, .int .i64 0, .pointer none] ∧ Kept [b2] W X) ⟨?_, ?_⟩ ?_
    · (repeat' first | (with_reducible assumption) | (with_reducible refine Blk.set3 ?_) | (with_reducible exact Blk.n (by assumption) rfl) | (with_reducible refine BlkN.drewN ?_ _) | (with_reducible refine BlkN.alloc ?_ _) | (with_reducible refine Blk.alloc ?_ _))
    · (repeat' first | (with_reducible assumption) | (with_reducible exact Kept.refl _ _) | (with_reducible refine Kept.alloc ?_ _) | (with_reducible refine Kept.call ?_ (by assumption)) | (with_reducible refine Kept.set ?_ _ _ _ (Or.inl (by simp))) | (with_reducible refine Kept.drew ?_) | (with_reducible refine Kept.drewN ?_ _) | (with_reducible exact hkX0))
    rintro X ⟨BX, hkX⟩
    have ⟨LX, CX, FX⟩ := BX
    have hBX := hkX.below hB hB.size (by simp; omega)
    refine bodyPost_ret (by simp [results, Tryz.results160, go_sem, CX]; try rfl) rfl ?_
    rw [HS.out]
    exact ⟨none, rfl, rfl, hBX⟩
  have ha' : (ea != at_) = false := by simpa using ha
  have HF2 := Lib.hid (HF.out.trans (if_neg (not_not_intro ha)))
  have HA := Lib.hid ha
  clear ha HF
  by_cases hr : ek = 3 ∨ ek = 4
  · have hv : Hid (true = (decide (ek = 3) || decide (ek = 4))) := by
      show true = _
      rcases hr with rfl | rfl <;> rfl
    have t2 : (ek == 2) = false := by simp; omega
    have HF3 := Lib.hid (HF2.out.trans (if_pos hr))
    clear hr HF2
    go_wp2_with fail
    refine (returns_any ea eb ek ec true hv.out _).mono ?_
    rintro e w1 ⟨rfl, hb1⟩
    have hkV1 : Kept [] V w1 := (Kept.refl _ _).call hb1
    have hkW1 : Kept [b2] W w1 := hkX0.next hkV1 (by simp)
    have hB1 := hkV1.below hBV hBV.size (by simp)
    have BX0 := hkV1.blk (by simp) Bg
    have ⟨M0, D0, E0⟩ := BX0
    have BX2 := hkV1.blk (by simp) BV2
    have ⟨M2, D2, E2⟩ := BX2
    clear CG FG CV0 FV0 CV1 FV1 CV2 FV2 hkX0
    have hkX0 : Kept [b2] W w1 := hkW1
    cases cs with
    | nil =>
      obtain rfl : P = none := HP.out
      have HS := Lib.hid (HF3.out.trans (if_pos (Or.inl rfl)))
      go_upto_region 8 with fail
      go_quiet (fail)
      go_wp2_with fail
      try simp only [Exit.inBlock, Exit.then]
      refine post_named (fun X => Blk X b2 [.slice none 0 0, .int .i64 0, .pointer none] ∧ Kept [b2] W X) ⟨?_, ?_⟩ ?_
      · (repeat' first | (with_reducible assumption) | (with_reducible refine Blk.set3 ?_) | (with_reducible exact Blk.n (by assumption) rfl) | (with_reducible refine BlkN.drewN ?_ _) | (with_reducible refine BlkN.alloc ?_ _) | (with_reducible refine Blk.alloc ?_ _))
      · (repeat' first | (with_reducible assumption) | (with_reducible exact Kept.refl _ _) | (with_reducible refine Kept.alloc ?_ _) | (with_reducible refine Kept.call ?_ (by assumption)) | (with_reducible refine Kept.set ?_ _ _ _ (Or.inl (by simp))) | (with_reducible refine Kept.drew ?_) | (with_reducible refine Kept.drewN ?_ _) | (with_reducible exact hkX0))
      rintro X ⟨BX, hkX⟩
      have ⟨LX, CX, FX⟩ := BX
      have hBX := hkX.below hB hB.size (by simp; omega)
      refine bodyPost_ret (by simp [results, Tryz.results160, go_sem, CX]; try rfl) rfl ?_
      rw [HS.out]
      exact ⟨none, rfl, rfl, hBX⟩
    | cons c r =>
      obtain ⟨pb, Q, rfl, PB0, PQ⟩ := HP.out
      have ⟨PL, PC, PF⟩ := PB0.later hB1
      have HQ := Lib.hid PQ
      have hpb : pb < w.heap.size := PB0.1
      clear PQ
      by_cases hcc : c = ec
      case neg =>
        have hc' : (c != ec) = true := by simpa using hcc
        have HS := Lib.hid (HF3.out.trans (if_pos (Or.inr (show gi (c :: r) 0 ≠ ec from hcc))))
        clear hcc
        go_upto_region 8 with fail
        go_quiet (fail)
        go_wp2_with fail
        try simp only [Exit.inBlock, Exit.then]
        refine post_named (fun X => Blk X b2 [.slice none 0 0, .int .i64 0, .pointer none] ∧ Kept [b2] W X) ⟨?_, ?_⟩ ?_
        · (repeat' first | (with_reducible assumption) | (with_reducible refine Blk.set3 ?_) | (with_reducible exact Blk.n (by assumption) rfl) | (with_reducible refine BlkN.drewN ?_ _) | (with_reducible refine BlkN.alloc ?_ _) | (with_reducible refine Blk.alloc ?_ _))
        · (repeat' first | (with_reducible assumption) | (with_reducible exact Kept.refl _ _) | (with_reducible refine Kept.alloc ?_ _) | (with_reducible refine Kept.call ?_ (by assumption)) | (with_reducible refine Kept.set ?_ _ _ _ (Or.inl (by simp))) | (with_reducible refine Kept.drew ?_) | (with_reducible refine Kept.drewN ?_ _) | (with_reducible exact hkX0))
        rintro X ⟨BX, hkX⟩
        have ⟨LX, CX, FX⟩ := BX
        have hBX := hkX.below hB hB.size (by simp; omega)
        refine bodyPost_ret (by simp [results, Tryz.results160, go_sem, CX]; try rfl) rfl ?_
        rw [HS.out]
        exact ⟨none, rfl, rfl, hBX⟩
      have hc' : (c != ec) = false := by simpa using hcc
      have HS := Lib.hid (HF3.out.trans (if_neg (fun hh => by rcases hh with hh | hh; cases hh; exact hh (show gi (c :: r) 0 = ec from hcc))))
      clear hcc
      go_upto_region 8 with fail
      go_quiet (fail)
      go_wp2_with fail
      try simp only [Exit.inBlock, Exit.then]
      refine post_named (fun X => Blk X b2 [.slice none 0 0, .int .i64 eb, .pointer Q] ∧ Kept [b2] W X) ⟨?_, ?_⟩ ?_
      · (repeat' first | (with_reducible assumption) | (with_reducible refine Blk.set3 ?_) | (with_reducible exact Blk.n (by assumption) rfl) | (with_reducible refine BlkN.drewN ?_ _) | (with_reducible refine BlkN.alloc ?_ _) | (with_reducible refine Blk.alloc ?_ _))
      · (repeat' first | (with_reducible assumption) | (with_reducible exact Kept.refl _ _) | (with_reducible refine Kept.alloc ?_ _) | (with_reducible refine Kept.call ?_ (by assumption)) | (with_reducible refine Kept.set ?_ _ _ _ (Or.inl (by simp))) | (with_reducible refine Kept.drew ?_) | (with_reducible refine Kept.drewN ?_ _) | (with_reducible exact hkX0))
      rintro X ⟨BX, hkX⟩
      have ⟨LX, CX, FX⟩ := BX
      have hBX := hkX.below hB hB.size (by simp; omega)
      refine bodyPost_ret (by simp [results, Tryz.results160, go_sem, CX]; try rfl) rfl ?_
      rw [HS.out]
      exact ⟨Q, rfl, Pend.later HQ.out hBX, hBX⟩
  have hv : Hid (false = (decide (ek = 3) || decide (ek = 4))) := by
    show false = _
    have q3 : ek ≠ 3 := fun hh => hr (.inl hh)
    have q4 : ek ≠ 4 := fun hh => hr (.inr hh)
    simp [q3, q4]
  have HF3 := Lib.hid (HF2.out.trans (if_neg hr))
  clear hr HF2
  go_wp2_with fail
  refine (returns_any ea eb ek ec false hv.out _).mono ?_
  rintro e w1 ⟨rfl, hb1⟩
  have hkV1 : Kept [] V w1 := (Kept.refl _ _).call hb1
  have hkW1 : Kept [b2] W w1 := hkX0.next hkV1 (by simp)
  have hB1 := hkV1.below hBV hBV.size (by simp)
  have BX0 := hkV1.blk (by simp) Bg
  have ⟨M0, D0, E0⟩ := BX0
  have BX2 := hkV1.blk (by simp) BV2
  have ⟨M2, D2, E2⟩ := BX2
  clear CG FG CV0 FV0 CV1 FV1 CV2 FV2 hkX0
  have hkX0 : Kept [b2] W w1 := hkW1
  by_cases h2 : ek = 2
  · have t2 : (ek == 2) = true := by simpa using h2
    have HS := Lib.hid (HF3.out.trans (if_pos h2))
    clear h2
    go_upto_region 13 with fail
    refine wp_named (fun V => ∃ g, w1.heap.size = g ∧ Blk V g [.int .i64 ea, .pointer P] ∧ Kept [] w1 V) ⟨_, rfl, Blk.new _ _ _ _ rfl, (Kept.refl _ _).alloc _⟩ ?_
    rintro U ⟨u, eu, Bu, hkU⟩
    rw [eu]
    have hkXU : Kept [b2] W U := hkW1.next hkU (by simp)
    have BU0 := hkU.blk (by simp) BX0
    have ⟨N0, O0, R0⟩ := BU0
    have BU2 := hkU.blk (by simp) BX2
    have ⟨N2, O2, R2⟩ := BU2
    have ub2 : b2 ≠ u := by omega
    clear D0 E0 D2 E2 hkX0 eu
    have hkX0 : Kept [b2] W U := hkXU
    go_wp2_with fail
    try simp only [Exit.inBlock, Exit.then]
    refine post_named (fun X => Blk X b2 [.slice none 0 0, .int .i64 eb, .pointer (some ⟨u, 0, none⟩)] ∧ Kept [b2] W X ∧ Blk X u [.int .i64 ea, .pointer P]) ⟨?_, ?_, ?_⟩ ?_
    · (repeat' first | (with_reducible assumption) | (with_reducible refine Blk.set3 ?_) | (with_reducible exact Blk.n (by assumption) rfl) | (with_reducible refine BlkN.drewN ?_ _) | (with_reducible refine BlkN.alloc ?_ _) | (with_reducible refine Blk.alloc ?_ _))
    · (repeat' first | (with_reducible assumption) | (with_reducible exact Kept.refl _ _) | (with_reducible refine Kept.alloc ?_ _) | (with_reducible refine Kept.call ?_ (by assumption)) | (with_reducible refine Kept.set ?_ _ _ _ (Or.inl (by simp))) | (with_reducible refine Kept.drew ?_) | (with_reducible refine Kept.drewN ?_ _) | (with_reducible exact hkX0))
    · exact (Bu.setOther _ _ _ ub2 |>.setOther _ _ _ ub2 |>.setOther _ _ _ ub2)
    rintro X ⟨BX, hkX, hX⟩
    have ⟨LX, CX, FX⟩ := BX
    have hBX := hkX.below hB hB.size (by simp; omega)
    refine bodyPost_ret (by simp [results, Tryz.results160, go_sem, CX]; try rfl) rfl ?_
    rw [HS.out]
    exact ⟨some ⟨u, 0, none⟩, rfl, ⟨u, P, rfl, HA.out ▸ hX, HP.out.later hBX⟩, hBX⟩
  · have t2 : (ek == 2) = false := by simpa using h2
    have HS := Lib.hid (HF3.out.trans (if_neg h2))
    clear h2
    go_wp2_with fail
    try simp only [Exit.inBlock, Exit.then]
    refine post_named (fun X => Blk X b2 [.slice none 0 0, .int .i64 eb, .pointer P] ∧ Kept [b2] W X) ⟨?_, ?_⟩ ?_
    · (repeat' first | (with_reducible assumption) | (with_reducible refine Blk.set3 ?_) | (with_reducible exact Blk.n (by assumption) rfl) | (with_reducible refine BlkN.drewN ?_ _) | (with_reducible refine BlkN.alloc ?_ _) | (with_reducible refine Blk.alloc ?_ _))
    · (repeat' first | (with_reducible assumption) | (with_reducible exact Kept.refl _ _) | (with_reducible refine Kept.alloc ?_ _) | (with_reducible refine Kept.call ?_ (by assumption)) | (with_reducible refine Kept.set ?_ _ _ _ (Or.inl (by simp))) | (with_reducible refine Kept.drew ?_) | (with_reducible refine Kept.drewN ?_ _) | (with_reducible exact hkX0))
    rintro X ⟨BX, hkX⟩
    have ⟨LX, CX, FX⟩ := BX
    have hBX := hkX.below hB hB.size (by simp; omega)
    refine bodyPost_ret (by simp [results, Tryz.results160, go_sem, CX]; try rfl) rfl ?_
    rw [HS.out]
    exact ⟨P, rfl, HP.out.later hBX, hBX⟩
end Go.Proofs.YtmbihjlflcjlnaaGreat
/- The contract of vpath's follow. -/
namespace Go.Df
open Go.RowKit
/-- A box of three cells is none of the list's. -/
theorem Pend.set {w w' : World} {g : Nat} {x y z : Value} (hg : Blk w g [x, y, z]) (hk : Kept [g] w w') : ∀ (cs : List Int) {p : Option Addr}, Pend w p cs → Pend w' p cs
  | [], _, h => h
  | _ :: r, _, ⟨b, q, e, hb, h⟩ => ⟨b, q, e, hk.blk (by
      simp only [List.mem_singleton]
      rintro rfl
      have h1 := hg.2.1 2
      rw [hb.2.1 2] at h1
      simp at h1) hb, Pend.set hg hk r h⟩
theorem Sp.chk_ok {ns : List Sp.Nd} {es : List Sp.Ed} {m fr : Int} (h : Sp.chkErr ns es m fr = 0) : Sp.superErr ns es m = 0 ∧ 0 ≤ fr ∧ fr < ns.length := by
  unfold Sp.chkErr at h
  split at h
  · rename_i h1; exact absurd h h1
  · rename_i h1
    split at h
    · cases h
    · exact ⟨Classical.not_not.mp h1, by omega, by omega⟩
theorem Sp.super_len {ns : List Sp.Nd} {es : List Sp.Ed} {m : Int} (h : Sp.superErr ns es m = 0) : ns.length ≤ 8192 ∧ es.length ≤ 32768 := by
  unfold Sp.superErr at h
  split at h
  · cases h
  · omega
theorem kept_set3 (w : World) (g : Nat) (x y z : Value) : Kept [g] w (((w.setCell ⟨g, 0, none⟩ x).setCell ⟨g, 1, none⟩ y).setCell ⟨g, 2, none⟩ z) :=
  (((Kept.refl [g] w).set g 0 x (.inl (by simp))).set g 1 y (.inl (by simp))).set g 2 z (.inl (by simp))
end Go.Df
namespace Go.Proofs.YtmbihjlflcjlnaaGreat
open Go.RowKit Go.Df
attribute [local go_sem ↓] Go.wp_at_zero Go.wp_at_succ

set_option maxRecDepth 100000 in
set_option maxHeartbeats 2000000 in
theorem follow_any (A1 A2 A3 : Option Addr) (n1 c1 n2 c2 n3 c3 : Nat) (mn fr : Int) (ns : List Sp.Nd) (es : List Sp.Ed) (path : List Int) (w : World) (hn : Nds w A1 n1 ns) (he : Eds w A2 n2 es)
    (hwn : ∀ j, j < n1 → (Lit.int .i64 (gn ns j).f).wf = true) (hwe : ∀ j, j < n2 → (Lit.int .i64 (ge es j).a).wf = true ∧ (Lit.int .i64 (ge es j).b).wf = true) (hp : Ints w A3 n3 path) :
    Calls Tryz.prog 134 #[.agg #[.slice A1 n1 c1, .slice A2 n2 c2, .int .i64 mn], .int .i64 fr, .slice A3 n3 c3] w fun e w' =>
      ∃ P', e = .returned (.tuple #[.agg #[.slice none 0 0, .int .i64 (Sp.followS ns es mn fr path).2.1, .pointer P'], .int .i64 (Sp.followS ns es mn fr path).1]) ∧ Pend w' P' (Sp.followS ns es mn fr path).2.2 ∧ Below w.heap.size w w' := by
  have HN := Lib.hid hn
  have HE := Lib.hid he
  have HLe := Lib.hid he.1
  have HWN := Lib.hid hwn
  have HWE := Lib.hid hwe
  have HP := Lib.hid hp
  have HLp := Lib.hid hp.1
  clear hn he hwn hwe hp
  go_enter Tryz.func134, Tryz.ntmps134
  go_upto_region 1 with fail
  refine wp_named (fun W => ∃ b0 b1, w.heap.size = b0 ∧ w.heap.size + 1 = b1 ∧ Blk W b0 [.slice A1 n1 c1, .slice A2 n2 c2, .int .i64 mn] ∧ Blk W b1 [.slice none 0 0, .int .i64 0, .pointer none] ∧ Below w.heap.size w W) ⟨_, _, rfl, rfl, ?_, ?_, ?_⟩ ?_
  · exact (Blk.new _ _ _ _ (by first | rfl | simp)).alloc _
  · exact Blk.new _ _ _ _ (by first | rfl | simp)
  · go_grown
  rintro W ⟨b0, b1, e0, e1, B0, B1, hB⟩
  rw [e1, e0]
  have G0 : w.heap.size ≤ b0 := by omega
  have n01 : b0 ≠ b1 := by omega
  have G1 : w.heap.size ≤ b1 := by omega
  have n10 : b1 ≠ b0 := by omega
  clear e0 e1
  have ⟨L0, C0, F0⟩ := B0
  have ⟨L1, C1, F1⟩ := B1
  go_wp2_with fail
  refine (vcheck_any _ _ _ _ _ _ _ _ ns es _ (HN.out.later hB) (HE.out.later hB) HWN.out HWE.out).mono ?_
  rintro e w1 ⟨rfl, hb1⟩
  have hk1 : Kept [] W w1 := (Kept.refl _ _).call hb1
  have hB1 := hk1.below hB hB.size (by simp)
  have BA := hk1.blk (by simp) B0
  have ⟨LA, CA, FA⟩ := BA
  have BB := hk1.blk (by simp) B1
  have ⟨LB, CB, FB⟩ := BB
  clear C0 F0 C1 F1
  obtain ⟨se, hse⟩ : ∃ x, Sp.chkErr ns es mn fr = x := ⟨_, rfl⟩
  rw [hse]
  have HC : Hid (Sp.followS ns es mn fr path = if se ≠ 0 then (se, 0, []) else if 4096 < n3 then (3, 0, []) else Sp.runS es fr [] path) := by
    show Sp.followS ns es mn fr path = _
    unfold Sp.followS
    rw [hse, HLp.out]
  have HCE := Lib.hid hse
  clear hse
  by_cases h0 : se = 0
  case neg =>
    have h0' : (se != 0) = true := by simpa using h0
    have HS := Lib.hid (HC.out.trans (if_pos h0))
    clear h0
    go_wp2_with fail
    try simp only [Exit.inBlock, Exit.then]
    refine post_named (fun X => Blk X b1 [.slice none 0 0, .int .i64 0, .pointer none] ∧ Kept [b1] w1 X) ⟨?_, ?_⟩ ?_
    · (repeat' first | (with_reducible assumption) | (with_reducible refine Blk.set3 ?_) | (with_reducible exact Blk.n (by assumption) rfl) | (with_reducible refine BlkN.drewN ?_ _) | (with_reducible refine BlkN.alloc ?_ _) | (with_reducible refine Blk.alloc ?_ _))
    · (repeat' first | (with_reducible assumption) | (with_reducible exact Kept.refl _ _) | (with_reducible refine Kept.alloc ?_ _) | (with_reducible refine Kept.call ?_ (by assumption)) | (with_reducible refine Kept.set ?_ _ _ _ (Or.inl (by simp))) | (with_reducible refine Kept.drew ?_) | (with_reducible refine Kept.drewN ?_ _))
    rintro X ⟨BX, hkX⟩
    have ⟨LX, CX, FX⟩ := BX
    have hBX := hkX.below hB1 hB1.size (by simp; omega)
    refine bodyPost_ret (by simp [results, Tryz.results134, go_sem, CX]; try rfl) rfl ?_
    rw [HS.out]
    exact ⟨none, rfl, rfl, hBX⟩
  have h0' : (se != 0) = false := by simpa using h0
  by_cases hl : 4096 < n3
  · have hl' : decide ((4096 : Int) < (n3 : Int)) = true := by simp; omega
    have HS := Lib.hid (HC.out.trans ((if_neg (not_not_intro h0)).trans (if_pos hl)))
    have HS0 := Lib.hid h0
    clear h0
    go_wp2_with fail
    try simp only [Exit.inBlock, Exit.then]
    refine post_named (fun X => Blk X b1 [.slice none 0 0, .int .i64 0, .pointer none] ∧ Kept [b1] w1 X) ⟨?_, ?_⟩ ?_
    · (repeat' first | (with_reducible assumption) | (with_reducible refine Blk.set3 ?_) | (with_reducible exact Blk.n (by assumption) rfl) | (with_reducible refine BlkN.drewN ?_ _) | (with_reducible refine BlkN.alloc ?_ _) | (with_reducible refine Blk.alloc ?_ _))
    · (repeat' first | (with_reducible assumption) | (with_reducible exact Kept.refl _ _) | (with_reducible refine Kept.alloc ?_ _) | (with_reducible refine Kept.call ?_ (by assumption)) | (with_reducible refine Kept.set ?_ _ _ _ (Or.inl (by simp))) | (with_reducible refine Kept.drew ?_) | (with_reducible refine Kept.drewN ?_ _))
    rintro X ⟨BX, hkX⟩
    have ⟨LX, CX, FX⟩ := BX
    have hBX := hkX.below hB1 hB1.size (by simp; omega)
    refine bodyPost_ret (by simp [results, Tryz.results134, go_sem, CX]; try rfl) rfl ?_
    rw [HS.out]
    exact ⟨none, rfl, rfl, hBX⟩
  have hl' : decide ((4096 : Int) < (n3 : Int)) = false := by simp; omega
  have HF := Lib.hid (HC.out.trans ((if_neg (not_not_intro h0)).trans (if_neg hl)))
  have hs2 : Hid (n2 ≤ 1000000) := by
    show n2 ≤ 1000000
    have h1 := HCE.out
    rw [h0] at h1
    have h2 := HLe.out
    have h3 := (Sp.super_len (Sp.chk_ok h1).1).2
    omega
  clear h0 HC
  go_upto_region 7 with fail
  refine wp_named (fun V => ∃ g, w1.heap.size = g ∧ Blk V g [.slice none 0 0, .int .i64 fr, .pointer none] ∧ Kept [] w1 V) ⟨_, rfl, Blk.new _ _ _ _ rfl, (Kept.refl _ _).alloc _⟩ ?_
  rintro V ⟨g, eg, Bg, hkV⟩
  rw [eg]
  have hkWV : Kept [] W V := keptTrans hk1 hkV
  have hBV := hkV.below hB1 hB1.size (by simp)
  have gb0 : b0 ≠ g := by omega
  have gb1 : b1 ≠ g := by omega
  have hgw : w.heap.size ≤ g := by have := hB1.size; omega
  clear CA FA CB FB eg
  go_wp2_with fail
  go_loopw [29] (fun i wr => ∃ (j : Nat) (a : Int) (cs : List Int) (P : Option Addr), j ≤ n3 ∧ i = .int .i64 j ∧ Kept [g] V wr ∧ Hid (Blk wr g [.slice none 0 0, .int .i64 a, .pointer P]) ∧ Hid (Pend wr P cs) ∧ Hid (Sp.followS ns es mn fr path = Sp.runS es a cs (path.drop j))) (fun i _ => n3 - (intOf i).toNat)
  case atStart => exact ⟨0, fr, [], none, Nat.zero_le _, rfl, Kept.refl _ _, Lib.hid Bg, Lib.hid rfl, HF⟩
  case round =>
    obtain ⟨j, a, cs, P, hj, rfl, hkr, bg, pd, hrun⟩ := hrel
    have hBr : Below w.heap.size w wr := hkr.below hBV hBV.size (by simp; omega)
    have BA := hkr.blk (by simp; omega) (hkWV.blk (by simp) B0)
    have ⟨LA, CA, FA⟩ := BA
    have BB := hkr.blk (by simp; omega) (hkWV.blk (by simp) B1)
    have ⟨LB, CB, FB⟩ := BB
    have ⟨LG, CG, FG⟩ := bg.out
    by_cases hlt : j < n3
    case neg =>
      obtain rfl : j = n3 := by omega
      clear hlt
      have HS : Hid (Sp.followS ns es mn fr path = (0, a, cs)) := by
        show Sp.followS ns es mn fr path = _
        rw [hrun.out, ← HLp.out, List.drop_length]
        rfl
      go_wp2_with fail
      try simp only [Exit.inBlock, Exit.then]
      refine post_named (fun X => Blk X b1 [.slice none 0 0, .int .i64 a, .pointer P] ∧ Kept [b1] wr X) ⟨?_, ?_⟩ ?_
      · (repeat' first | (with_reducible assumption) | (with_reducible refine Blk.set3 ?_) | (with_reducible exact Blk.n (by assumption) rfl) | (with_reducible refine BlkN.drewN ?_ _) | (with_reducible refine BlkN.alloc ?_ _) | (with_reducible refine Blk.alloc ?_ _))
      · (repeat' first | (with_reducible assumption) | (with_reducible exact Kept.refl _ _) | (with_reducible refine Kept.alloc ?_ _) | (with_reducible refine Kept.call ?_ (by assumption)) | (with_reducible refine Kept.set ?_ _ _ _ (Or.inl (by simp))) | (with_reducible refine Kept.drew ?_) | (with_reducible refine Kept.drewN ?_ _))
      rintro X ⟨BX, hkX⟩
      have ⟨LX, CX, FX⟩ := BX
      have hBX := hkX.below hBr hBr.size (by simp; omega)
      refine bodyPost_ret (by simp [results, Tryz.results134, go_sem, CX]; try rfl) rfl ?_
      rw [HS.out]
      exact ⟨P, rfl, Pend.set BB hkX cs pd.out, hBX⟩
    obtain ⟨pb, po, rfl, hpl, hpc⟩ := (HP.out.later hBr).2 (by omega)
    have pc := hpc j hlt
    clear hpc
    obtain ⟨k, hk⟩ : ∃ k, gi path j = k := ⟨_, rfl⟩
    rw [hk] at pc
    have HD : Hid (path.drop j = k :: path.drop (j + 1)) := by
      show _ = _
      rw [Sp.drop_gi (by rw [HLp.out]; exact hlt), hk]
    clear hk
    go_wp2_with fail
    refine (step_any _ _ P _ _ _ _ _ a k _ es cs _ (HE.out.later hBr) hs2.out pd.out).mono ?_
    obtain ⟨er, hs⟩ : ∃ er, Sp.stepS es a cs k = er := ⟨_, rfl⟩
    rw [hs]
    obtain ⟨er, a', cs'⟩ := er
    dsimp only
    rintro e w5 ⟨P', rfl, pd5, hb5⟩
    have hkr5 : Kept [] wr w5 := (Kept.refl _ _).call hb5
    have PD5 := Lib.hid pd5
    have BG5 := hkr5.blk (by simp) bg.out
    have BB5 := hkr5.blk (by simp) BB
    have HS5 := Lib.hid hs
    clear CA FA CB FB CG FG pd5 hs pc
    go_upto_region 11 with fail
    refine wp_named (fun Y => ∃ h, w5.heap.size = h ∧ Blk Y h [.slice none 0 0, .int .i64 a', .pointer P'] ∧ Kept [] w5 Y) ⟨_, rfl, Blk.new _ _ _ _ rfl, (Kept.refl _ _).alloc _⟩ ?_
    rintro Y ⟨h, eh, Bh, hkY⟩
    rw [eh]
    have hkrY : Kept [] wr Y := keptTrans hkr5 hkY
    have ⟨LH, CH, FH⟩ := Bh
    have BGY := hkY.blk (by simp) BG5
    have ⟨LGY, CGY, FGY⟩ := BGY
    have BBY := hkY.blk (by simp) BB5
    have ⟨LBY, CBY, FBY⟩ := BBY
    have hBY := hkrY.below hBr hBr.size (by simp)
    have PDY := Lib.hid (Pend.kept hkY cs' PD5.out)
    have hgh : g ≠ h := by have := hkr.size; have := hkr5.size; have := LG; omega
    have hbh : b1 ≠ h := by have := LB; have := hkr5.size; omega
    clear eh
    by_cases he0 : er = 0
    case neg =>
      have he' : (er != 0) = true := by simpa using he0
      have HS : Hid (Sp.followS ns es mn fr path = (er, 0, [])) := by
        show Sp.followS ns es mn fr path = _
        rw [hrun.out, HD.out, Sp.runS, HS5.out, if_pos he0]
      clear he0
      go_wp2_with fail
      try simp only [Exit.inBlock, Exit.then]
      refine post_named (fun X => Blk X b1 [.slice none 0 0, .int .i64 0, .pointer none] ∧ Kept [b1] Y X) ⟨?_, ?_⟩ ?_
      · (repeat' first | (with_reducible assumption) | (with_reducible refine Blk.set3 ?_) | (with_reducible exact Blk.n (by assumption) rfl) | (with_reducible refine BlkN.drewN ?_ _) | (with_reducible refine BlkN.alloc ?_ _) | (with_reducible refine Blk.alloc ?_ _))
      · (repeat' first | (with_reducible assumption) | (with_reducible exact Kept.refl _ _) | (with_reducible refine Kept.alloc ?_ _) | (with_reducible refine Kept.call ?_ (by assumption)) | (with_reducible refine Kept.set ?_ _ _ _ (Or.inl (by simp))) | (with_reducible refine Kept.drew ?_) | (with_reducible refine Kept.drewN ?_ _))
      rintro X ⟨BX, hkX⟩
      have ⟨LX, CX, FX⟩ := BX
      have hBX := hkX.below hBY hBY.size (by simp; omega)
      refine bodyPost_ret (by simp [results, Tryz.results134, go_sem, CX]; try rfl) rfl ?_
      rw [HS.out]
      exact ⟨none, rfl, rfl, hBX⟩
    have he' : (er != 0) = false := by simpa using he0
    have HR : Hid (Sp.followS ns es mn fr path = Sp.runS es a' cs' (path.drop (j + 1))) := by
      show Sp.followS ns es mn fr path = _
      rw [hrun.out, HD.out, Sp.runS, HS5.out, if_neg (not_not_intro he0)]
    clear he0
    have hkVY : Kept [g] V Y := hkr.next hkrY (by simp)
    go_wp2_with fail
    refine ⟨⟨j + 1, a', cs', P', by omega, by go_num, hkVY.next (kept_set3 _ _ _ _ _) (by simp), Lib.hid (Blk.set3 (BGY.n rfl)), Lib.hid (Pend.set BGY (kept_set3 _ _ _ _ _) cs' PDY.out), HR⟩, by simp [intOf]; omega⟩
end Go.Proofs.YtmbihjlflcjlnaaGreat
/- The contracts of vpath's Check, Balanced and End. -/
namespace Go.Df
open Go.RowKit
/-- A supergraph in memory whose numbers are int64's. -/
structure Gr (w : World) (A1 : Option Addr) (n1 : Nat) (A2 : Option Addr) (n2 : Nat) (ns : List Sp.Nd) (es : List Sp.Ed) : Prop where
  nd : Nds w A1 n1 ns
  ed : Eds w A2 n2 es
  wn : ∀ j, j < n1 → (Lit.int .i64 (gn ns j).f).wf = true
  we : ∀ j, j < n2 → (Lit.int .i64 (ge es j).a).wf = true ∧ (Lit.int .i64 (ge es j).b).wf = true
theorem Gr.later {w w' : World} {A1 A2 : Option Addr} {n1 n2 : Nat} {ns : List Sp.Nd} {es : List Sp.Ed} (h : Gr w A1 n1 A2 n2 ns es) (hb : Below w.heap.size w w') : Gr w' A1 n1 A2 n2 ns es := ⟨h.nd.later hb, h.ed.later hb, h.wn, h.we⟩
theorem Gr.kept {w w' : World} {A1 A2 : Option Addr} {n1 n2 : Nat} {ns : List Sp.Nd} {es : List Sp.Ed} (h : Gr w A1 n1 A2 n2 ns es) (hb : Kept [] w w') : Gr w' A1 n1 A2 n2 ns es := h.later hb.toBelow
namespace Sp
theorem run_err {es : List Ed} : ∀ (path : List Int) {a : Int} {cs : List Int}, (runS es a cs path).1 ≠ 0 → (runS es a cs path).2 = (0, [])
  | [], _, _, h => absurd rfl h
  | k :: r, a, cs, h => by
    rw [runS] at h ⊢
    split
    · rfl
    · rename_i h1
      rw [if_neg h1] at h
      exact run_err r h
theorem follow_err {ns : List Nd} {es : List Ed} {m fr : Int} {path : List Int} (h : (followS ns es m fr path).1 ≠ 0) : (followS ns es m fr path).2 = (0, []) := by
  unfold followS at h ⊢
  split
  · rfl
  · rename_i h1
    rw [if_neg h1] at h
    split
    · rfl
    · rename_i h2
      rw [if_neg h2] at h
      exact run_err path h
def balS (ns : List Nd) (es : List Ed) (m fr : Int) (path : List Int) : Bool := decide ((followS ns es m fr path).1 = 0) && decide ((followS ns es m fr path).2.2 = [])
end Sp
end Go.Df
namespace Go.Proofs.YtmbihjlflcjlnaaGreat
open Go.RowKit Go.Df
attribute [local go_sem ↓] Go.wp_at_zero Go.wp_at_succ

set_option maxRecDepth 100000 in
set_option maxHeartbeats 1000000 in
theorem pcheck_any (A1 A2 A3 : Option Addr) (n1 c1 n2 c2 n3 c3 : Nat) (mn fr : Int) (ns : List Sp.Nd) (es : List Sp.Ed) (path : List Int) (w : World) (hg : Gr w A1 n1 A2 n2 ns es) (hp : Ints w A3 n3 path) :
    Calls Tryz.prog 88 #[.agg #[.slice A1 n1 c1, .slice A2 n2 c2, .int .i64 mn], .int .i64 fr, .slice A3 n3 c3] w fun e w' => e = .returned (.int .i64 (Sp.followS ns es mn fr path).1) ∧ Below w.heap.size w w' := by
  have HG := Lib.hid hg
  have HP := Lib.hid hp
  clear hg hp
  go_enter Tryz.func88, Tryz.ntmps88
  go_upto_region 1 with fail
  refine wp_named (fun W => ∃ b0, w.heap.size = b0 ∧ Blk W b0 [.slice A1 n1 c1, .slice A2 n2 c2, .int .i64 mn] ∧ Below w.heap.size w W) ⟨_, rfl, ?_, ?_⟩ ?_
  · exact Blk.new _ _ _ _ (by first | rfl | simp)
  · go_grown
  rintro W ⟨b0, e0, B0, hB⟩
  rw [e0]
  have G0 : w.heap.size ≤ b0 := by omega
  clear e0
  have ⟨L0, C0, F0⟩ := B0
  go_wp2_with fail
  refine (follow_any _ _ _ _ _ _ _ _ _ _ _ ns es path _ (HG.out.later hB).nd (HG.out.later hB).ed HG.out.wn HG.out.we (HP.out.later hB)).mono ?_
  rintro e w1 ⟨P, rfl, -, hb1⟩
  have hk1 : Kept [] W w1 := (Kept.refl _ _).call hb1
  have hB1 := hk1.below hB hB.size (by simp)
  obtain ⟨⟨er, a, cs⟩, hf⟩ : ∃ x, Sp.followS ns es mn fr path = x := ⟨_, rfl⟩
  rw [hf]
  have HFo := Lib.hid hf
  clear hf
  go_wp2_with fail
  go_ret
  exact ⟨(congrArg (fun x : Int × Int × List Int => Ending.returned (Value.int .i64 x.1)) HFo.out).symm, hB1.alloc hB1.size _⟩

end Go.Proofs.YtmbihjlflcjlnaaGreat
/- Supergraphs that came in as arguments. -/
namespace Go.Df
open Go.RowKit Go.ChangeShapes Go.WideShapes
section
variable {H : Type} {enc : TypeId × Value → H} {P : Program} {w : World} {base : Nat} {held : Bool}
theorem addr_add_add (a : Addr) (x y : Nat) : (a.add x).add y = a.add (x + y) := by
  by_cases hx : x = 0 <;> by_cases hy : y = 0 <;> simp [Addr.add, hx, hy, Nat.add_assoc]
/-- A slice of elements of k numbers each that came in. -/
theorem open_rowsI {t e : TypeId} {k fuel : Nat} {v : Value} {x : DataW H × List MemPlace} (ht : P.underlying t = some (.slice e)) (hC : P.cellsOf e = k) (hk : 0 < k)
    (hel : ∀ n cs' y, DataW.trod enc P w base (fun _ => true) held n e cs' = some y → ∃ zs : List Int, cs' = zs.map (Value.int .i64) ∧ ∀ q, q < k → (Lit.int .i64 (gi zs q)).wf = true)
    (h : DataW.trod enc P w base (fun _ => true) held fuel t [v] = some x) :
    ∃ A n c, ∃ g : Nat → Nat → Int, v = .slice A n c ∧ n ≤ c ∧ (0 < n → ∃ b o, A = some ⟨b, o, none⟩ ∧ b < w.heap.size ∧ ∀ i, i < n → ∀ q, q < k → w.cell? ⟨b, o + i * k + q, none⟩ = some (.int .i64 (g i q))) ∧ ∀ i, i < n → ∀ q, q < k → (Lit.int .i64 (g i q)).wf = true := by
  rcases Go.Deep.open_slice ht h with ⟨h0, _⟩ | ⟨a, len, cap, m, n, D, Pl, hcs, hbb, hl, hm, hmm, hx, hi⟩
  · injection h0 with h0
    exact ⟨none, 0, 0, fun _ _ => 0, h0, Nat.le_refl _, fun h => absurd h (by omega), fun i hi => absurd hi (by omega)⟩
  · injection hcs with hcs
    subst hcs
    have hread : ∀ i, i < len → ∃ zs : List Int, ∀ q, q < k → w.cell? (a.add (i * k + q)) = some (.int .i64 (gi zs q)) ∧ (Lit.int .i64 (gi zs q)).wf = true := by
      intro i hil
      obtain ⟨cs', hc, ht'⟩ := hi i (by rw [hmm]; simp; omega)
      rw [hC] at hc
      obtain ⟨zs, rfl, hw⟩ := hel _ _ _ ht'
      refine ⟨zs, fun q hq => ⟨?_, hw q hq⟩⟩
      obtain ⟨h1, h2, h3⟩ := World.cells?_some hc
      have h4 := h3 q hq
      have h5 : q < zs.length := by simp at h2; omega
      rw [map_gi h5] at h4
      have e1 : (a.add (i * k)).add q = a.add (i * k + q) := addr_add_add a _ _
      rw [← e1]
      exact h4
    have hex : ∃ f : Nat → List Int, ∀ i, i < len → ∀ q, q < k → w.cell? (a.add (i * k + q)) = some (.int .i64 (gi (f i) q)) ∧ (Lit.int .i64 (gi (f i) q)).wf = true :=
      ⟨fun i => if hil : i < len then (hread i hil).choose else [], fun i hil => by simp only [dif_pos hil]; exact (hread i hil).choose_spec⟩
    obtain ⟨f, hf⟩ := hex
    refine ⟨some a, len, cap, fun i q => gi (f i) q, rfl, hl, fun hp => ?_, fun i hi q hq => (hf i hi q hq).2⟩
    obtain ⟨b, o, sp⟩ := a
    have h0 := (hf 0 hp 0 hk).1
    have hsp : sp = none := by
      cases sp with
      | none => rfl
      | some s =>
        exfalso
        simp only [World.cell?, Addr.add] at h0
        split at h0 <;> simp at h0
    subst hsp
    refine ⟨b, o, rfl, cell_lt (p := ⟨b, o, none⟩) (by have h9 := h0; rw [add_lit] at h9; simpa using h9), fun i hil q hq => ?_⟩
    have h8 := (hf i hil q hq).1
    rw [add_lit, ← Nat.add_assoc] at h8
    exact h8
/-- A list of three, of four cells by its parts. -/
theorem cells3 {cs : List Value} {z0 z1 z2 : Int} (hl : cs.length = 3) (h0 : (cs.drop 0).take 1 = [.int .i64 z0]) (h1 : (cs.drop 1).take 1 = [.int .i64 z1]) (h2 : (cs.drop 2).take 1 = [.int .i64 z2]) : cs = [z0, z1, z2].map (Value.int .i64) := by
  match cs, hl with
  | [a, b, c], _ => simp at h0 h1 h2; simp [h0, h1, h2]
theorem cells4 {cs : List Value} {z0 z1 z2 z3 : Int} (hl : cs.length = 4) (h0 : (cs.drop 0).take 1 = [.int .i64 z0]) (h1 : (cs.drop 1).take 1 = [.int .i64 z1]) (h2 : (cs.drop 2).take 1 = [.int .i64 z2]) (h3 : (cs.drop 3).take 1 = [.int .i64 z3]) : cs = [z0, z1, z2, z3].map (Value.int .i64) := by
  match cs, hl with
  | [a, b, c, d], _ => simp at h0 h1 h2 h3; simp [h0, h1, h2, h3]
theorem gn_mk {n i : Nat} (h : i < n) (f : Nat → Sp.Nd) : gn ((List.range n).map f) i = f i := by
  rw [gn_lt (by simpa using h)]
  simp
theorem ge_mk {n i : Nat} (h : i < n) (f : Nat → Sp.Ed) : ge ((List.range n).map f) i = f i := by
  rw [ge_lt (by simpa using h)]
  simp
/-- Nodes and edges out of rows of numbers. -/
theorem gr_mk {A1 A2 : Option Addr} {n1 n2 : Nat} {g1 g2 : Nat → Nat → Int}
    (c1 : 0 < n1 → ∃ b o, A1 = some ⟨b, o, none⟩ ∧ b < w.heap.size ∧ ∀ i, i < n1 → ∀ q, q < 3 → w.cell? ⟨b, o + i * 3 + q, none⟩ = some (.int .i64 (g1 i q))) (w1 : ∀ i, i < n1 → ∀ q, q < 3 → (Lit.int .i64 (g1 i q)).wf = true)
    (c2 : 0 < n2 → ∃ b o, A2 = some ⟨b, o, none⟩ ∧ b < w.heap.size ∧ ∀ i, i < n2 → ∀ q, q < 4 → w.cell? ⟨b, o + i * 4 + q, none⟩ = some (.int .i64 (g2 i q))) (w2 : ∀ i, i < n2 → ∀ q, q < 4 → (Lit.int .i64 (g2 i q)).wf = true) :
    Gr w A1 n1 A2 n2 ((List.range n1).map (fun i => ⟨g1 i 0, g1 i 1, g1 i 2⟩)) ((List.range n2).map (fun i => ⟨g2 i 0, g2 i 1, g2 i 2, g2 i 3⟩)) := by
  refine ⟨⟨by simp, fun h => ?_⟩, ⟨by simp, fun h => ?_⟩, fun j hj => ?_, fun j hj => ?_⟩
  · obtain ⟨b, o, e, hl, hc⟩ := c1 h
    refine ⟨b, o, e, hl, fun i hi => ?_⟩
    rw [gn_mk hi]
    exact ⟨hc i hi 0 (by omega), hc i hi 1 (by omega), hc i hi 2 (by omega)⟩
  · obtain ⟨b, o, e, hl, hc⟩ := c2 h
    refine ⟨b, o, e, hl, fun i hi => ?_⟩
    rw [ge_mk hi]
    exact ⟨hc i hi 0 (by omega), hc i hi 1 (by omega), hc i hi 2 (by omega), hc i hi 3 (by omega)⟩
  · rw [gn_mk hj]
    exact w1 j hj 0 (by omega)
  · rw [ge_mk hj]
    exact ⟨w2 j hj 0 (by omega), w2 j hj 1 (by omega)⟩
end
end Go.Df
namespace Go.Proofs.YtmbihjlflcjlnaaGreat
open Go.RowKit Go.ChangeShapes Go.WideShapes Go.Joins Go.Df
theorem open_node {H : Type} {enc : TypeId × Value → H} {w : World} {base : Nat} {held : Bool} (n : Nat) (cs' : List Value) (y : DataW H × List MemPlace) (h : DataW.trod enc Tryz.prog w base (fun _ => true) held n 69 cs' = some y) : ∃ zs : List Int, cs' = zs.map (Value.int .i64) ∧ ∀ q, q < 3 → (Lit.int .i64 (gi zs q)).wf = true := by
  obtain ⟨y0, y1, y2, m, -, hl, h0, h1, h2⟩ := Go.Deep.trod_struct3 Tryz.underlying69 h
  obtain ⟨z0, e0, -, w0⟩ := DataW.trod_int Tryz.underlying3 h0
  obtain ⟨z1, e1, -, w1⟩ := DataW.trod_int Tryz.underlying3 h1
  obtain ⟨z2, e2, -, w2⟩ := DataW.trod_int Tryz.underlying3 h2
  have hc3 : Tryz.prog.cellsOf 69 = 3 := by kernel_rfl
  have hc1 : Tryz.prog.cellsOf 3 = 1 := by kernel_rfl
  rw [hc3] at hl
  dsimp only at e0 e1 e2
  rw [hc1] at e0 e1 e2
  refine ⟨[z0, z1, z2], cells3 hl e0 e1 e2, fun q hq => ?_⟩
  match q, hq with
  | 0, _ => exact w0
  | 1, _ => exact w1
  | 2, _ => exact w2
theorem open_edge {H : Type} {enc : TypeId × Value → H} {w : World} {base : Nat} {held : Bool} (n : Nat) (cs' : List Value) (y : DataW H × List MemPlace) (h : DataW.trod enc Tryz.prog w base (fun _ => true) held n 112 cs' = some y) : ∃ zs : List Int, cs' = zs.map (Value.int .i64) ∧ ∀ q, q < 4 → (Lit.int .i64 (gi zs q)).wf = true := by
  obtain ⟨y0, y1, y2, y3, m, -, hl, h0, h1, h2, h3⟩ := trod_struct4 Tryz.underlying112 h
  obtain ⟨z0, e0, -, w0⟩ := DataW.trod_int Tryz.underlying3 h0
  obtain ⟨z1, e1, -, w1⟩ := DataW.trod_int Tryz.underlying3 h1
  obtain ⟨z2, e2, -, w2⟩ := DataW.trod_int Tryz.underlying3 h2
  obtain ⟨z3, e3, -, w3⟩ := DataW.trod_int Tryz.underlying3 h3
  have hc3 : Tryz.prog.cellsOf 112 = 4 := by kernel_rfl
  have hc1 : Tryz.prog.cellsOf 3 = 1 := by kernel_rfl
  rw [hc3] at hl
  dsimp only at e0 e1 e2 e3
  rw [hc1] at e0 e1 e2 e3
  refine ⟨[z0, z1, z2, z3], cells4 hl e0 e1 e2 e3, fun q hq => ?_⟩
  match q, hq with
  | 0, _ => exact w0
  | 1, _ => exact w1
  | 2, _ => exact w2
  | 3, _ => exact w3
/-- A supergraph that came in. -/
theorem open_gr {H : Type} {enc : TypeId × Value → H} {w : World} {base : Nat} {held : Bool} {f1 f2 : Nat} {v1 v2 : Value} {x1 x2 : DataW H × List MemPlace}
    (h1 : DataW.trod enc Tryz.prog w base (fun _ => true) held f1 22 [v1] = some x1) (h2 : DataW.trod enc Tryz.prog w base (fun _ => true) held f2 23 [v2] = some x2) :
    ∃ A1 n1 c1 A2 n2 c2 ns es, v1 = .slice A1 n1 c1 ∧ v2 = .slice A2 n2 c2 ∧ Gr w A1 n1 A2 n2 ns es := by
  obtain ⟨A1, n1, c1, g1, rfl, -, k1, w1⟩ := open_rowsI Tryz.underlying22 (k := 3) (by kernel_rfl) (by omega) open_node h1
  obtain ⟨A2, n2, c2, g2, rfl, -, k2, w2⟩ := open_rowsI Tryz.underlying23 (k := 4) (by kernel_rfl) (by omega) open_edge h2
  exact ⟨A1, n1, c1, A2, n2, c2, _, _, rfl, rfl, gr_mk k1 w1 k2 w2⟩
end Go.Proofs.YtmbihjlflcjlnaaGreat
