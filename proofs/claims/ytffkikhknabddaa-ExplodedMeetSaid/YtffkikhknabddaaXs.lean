/- The contracts of both Meets. (Printed by genXs.py.) -/
import Derived.Test.YtffkikhknabddaaXj
import Derived.Test.YtffkikhknabddaaZx
namespace Go.Df
open Go.RowKit
def Pths (w : World) (A : Option Addr) (n : Nat) (ps : Nat → List Int) : Prop :=
  0 < n → ∃ b o, A = some ⟨b, o, none⟩ ∧ b < w.heap.size ∧ ∀ i, i < n → ∃ Ai ni ci, w.cell? ⟨b, o + i, none⟩ = some (.slice Ai ni ci) ∧ Ints w Ai ni (ps i)
theorem Pths.row {w0 w : World} {A : Option Addr} {n : Nat} {ps : Nat → List Int} (h : Pths w0 A n ps) (hb : Below w0.heap.size w0 w) {i : Nat} (hi : i < n) :
    ∃ b o Ai ni ci, A = some ⟨b, o, none⟩ ∧ b < w0.heap.size ∧ w.cell? ⟨b, o + i, none⟩ = some (.slice Ai ni ci) ∧ Ints w0 Ai ni (ps i) := by
  obtain ⟨b, o, rfl, hl, hc⟩ := h (by omega)
  obtain ⟨Ai, ni, ci, h1, h2⟩ := hc i hi
  exact ⟨b, o, Ai, ni, ci, rfl, hl, (hb.cell (p := ⟨b, _, none⟩) hl).trans h1, h2⟩
theorem Pths.later {w w' : World} {A : Option Addr} {n : Nat} {ps : Nat → List Int} (h : Pths w A n ps) (hb : Below w.heap.size w w') : Pths w' A n ps := fun h0 => by
  obtain ⟨b, o, e, hl, hc⟩ := h h0
  refine ⟨b, o, e, Nat.lt_of_lt_of_le hl hb.size, fun i hi => ?_⟩
  obtain ⟨Ai, ni, ci, h1, h2⟩ := hc i hi
  exact ⟨Ai, ni, ci, (hb.cell (p := ⟨b, _, none⟩) hl).trans h1, h2.later hb⟩
/-- The error of path i. -/
def pthErr (ns : List Sp.Nd) (es : List Sp.Ed) (mn : Int) (ps : Nat → List Int) (i : Nat) : Int :=
  if (Sp.followS ns es mn mn (ps i)).1 ≠ 0 then (Sp.followS ns es mn mn (ps i)).1 else if (Sp.followS ns es mn mn (ps i)).2.1 ≠ (Sp.followS ns es mn mn (ps 0)).2.1 then 20 else 0
namespace If
open Sp
/-- The error of Meet of n paths. -/
def mtErr (p : Pb) (n : Nat) (ps : Nat → List Int) : Int := if pbErr p ≠ 0 then pbErr p else fe (pthErr p.ns p.es p.mn ps) 0 n
/-- The union of the facts along the first i paths. -/
def mtF (p : Pb) (ps : Nat → List Int) : Nat → List Int
  | 0 => []
  | i + 1 => joinF (mtF p ps i) (alongF p (ps i))
theorem asc_len : ∀ (l : List Int) (a b : Int), l.Pairwise (· < ·) → (∀ y ∈ l, a < y ∧ y < b) → l.length = 0 ∨ (l.length : Int) ≤ b - a - 1
  | [], _, _, _, _ => .inl rfl
  | x :: l, a, b, h, h2 => by
    rw [List.pairwise_cons] at h
    have hx := h2 x (by simp)
    have h3 := asc_len l x b h.2 (fun y hy => ⟨h.1 y hy, (h2 y (List.mem_cons_of_mem _ hy)).2⟩)
    right
    rw [List.length_cons]
    rcases h3 with h3 | h3
    · rw [h3]; omega
    · omega
theorem mtF_rng {p : Pb} (h : Ok p) {ps : Nat → List Int} : ∀ i, (∀ x, x < i → ∀ j, j < (ps x).length → 0 ≤ gi (ps x) j ∧ gi (ps x) j < p.es.length) → ∀ y ∈ mtF p ps i, 1 ≤ y ∧ y < p.F
  | 0, _, y, hy => by simp [mtF] at hy
  | i + 1, hk, y, hy => by
    rw [mtF, joinF_mem] at hy
    rcases hy with hy | hy
    · exact mtF_rng h i (fun x hx => hk x (by omega)) y hy
    · exact alongF_rng h (hk i (by omega)) y hy
theorem mtF_len {p : Pb} (h : Ok p) {ps : Nat → List Int} {i : Nat} (hk : ∀ x, x < i → ∀ j, j < (ps x).length → 0 ≤ gi (ps x) j ∧ gi (ps x) j < p.es.length) : (mtF p ps i).length ≤ 1024 := by
  have h1 : (mtF p ps i).Pairwise (· < ·) := by
    cases i with
    | zero => exact List.Pairwise.nil
    | succ i => exact ascF_asc _
  have h2 := asc_len _ 0 p.F h1 (fun y hy => by have := mtF_rng h i hk y hy; omega)
  have := h.f2
  omega
theorem alongF_len2 {p : Pb} (h : Ok p) {path : List Int} (hk : ∀ j, j < path.length → 0 ≤ gi path j ∧ gi path j < p.es.length) : (alongF p path).length ≤ 1024 := by
  have h1 : (alongF p path).Pairwise (· < ·) := by
    unfold alongF
    have : ∀ (path l : List Int), l.Pairwise (· < ·) → (path.foldl (stepF p) l).Pairwise (· < ·) := by
      intro path
      induction path with
      | nil => exact fun l hl => hl
      | cons k r ih => exact fun l _ => ih _ (ascF_asc _)
    exact this path _ (ascF_asc _)
  have h2 := asc_len _ 0 p.F h1 (fun y hy => by have := alongF_rng h hk y hy; omega)
  have := h.f2
  omega
end If
end Go.Df
namespace Go.Proofs.Ytffkikhknabddaa
open Go.RowKit Go.Df Go.Df.If
attribute [local go_sem ↓] Go.wp_at_zero Go.wp_at_succ
def endS (es : List Sp.Ed) : Int → List Int → Int
  | a, [] => a
  | _, k :: r => endS es (ge es k.toNat).b r
theorem runS_end {es : List Sp.Ed} : ∀ (path : List Int) {a : Int} {cs : List Int}, (Sp.runS es a cs path).1 = 0 → (Sp.runS es a cs path).2.1 = endS es a path
  | [], _, _, _ => rfl
  | k :: r, a, cs, h => by
    rw [Sp.runS] at h ⊢
    split at h
    · rename_i h0; exact absurd h h0
    · rename_i h0
      rw [if_neg h0]
      have h1 : (Sp.stepS es a cs k).1 = 0 := Decidable.byContradiction h0
      rw [runS_end r h, endS]
      congr 1
      unfold Sp.stepS at h1 ⊢
      split at h1
      · cases h1
      · rename_i x1
        rw [if_neg x1]
        split at h1
        · cases h1
        · rename_i x2
          rw [if_neg x2]
          split at h1
          · rename_i x3
            rw [if_pos x3]
            split at h1
            · cases h1
            · rename_i x4
              rw [if_neg x4]
          · rename_i x3
            rw [if_neg x3]
            split <;> rfl
theorem endS_last {es : List Sp.Ed} : ∀ (path : List Int) (a : Int), 0 < path.length → endS es a path = (ge es (gi path (path.length - 1)).toNat).b
  | [], _, h => absurd h (by simp)
  | [k], _, _ => rfl
  | k :: l :: r, a, _ => by
    rw [endS, endS_last (l :: r) _ (by simp)]
    simp [gi]
theorem follow_end {ns : List Sp.Nd} {es : List Sp.Ed} {mn : Int} {path : List Int} (h : (Sp.followS ns es mn mn path).1 = 0) : (Sp.followS ns es mn mn path).2.1 = endS es mn path := by
  unfold Sp.followS at h ⊢
  split at h
  · rename_i h0; exact absurd h h0
  · rename_i h0
    rw [if_neg h0]
    split at h
    · cases h
    · rename_i h1
      rw [if_neg h1]
      exact runS_end path h

set_option maxRecDepth 100000 in
set_option maxHeartbeats 4000000 in
theorem rend31_any (A1 A2 A5 : Option Addr) (n1 c1 n2 c2 n5 c5 : Nat) (mn : Int) (es : List Sp.Ed) (path : List Int) (w : World) (he : Eds w A2 n2 es) (hp : Ints w A5 n5 path) (hpi : ∀ j, j < path.length → 0 ≤ gi path j ∧ gi path j < es.length) (hpl : path.length ≤ 4096) (v : Int) (hv : endS es mn path = v) :
    Calls Try.prog 95 #[.agg #[.slice A1 n1 c1, .slice A2 n2 c2, .int .i64 mn], .slice A5 n5 c5] w fun e w' => e = .returned (.int .i64 v) ∧ Below w.heap.size w w' := by
  have HE := Lib.hid he
  have HP := Lib.hid hp
  have HN := Lib.hid hp.1
  have HPI := Lib.hid hpi
  have HV := Lib.hid hv
  have hn5 : n5 ≤ 4096 := by have := hp.1; omega
  clear he hp hpi hv hpl
  go_enter Try.func95, Try.ntmps95
  go_upto_region 1 with fail
  refine wp_named (fun W => ∃ b0, w.heap.size = b0 ∧ Blk W b0 [.slice A1 n1 c1, .slice A2 n2 c2, .int .i64 mn] ∧ Below w.heap.size w W) ⟨_, rfl, ?_, ?_⟩ ?_
  · exact Blk.new _ _ _ _ (by first | rfl | simp)
  · go_grown
  rintro W ⟨b0, e0, B0, hB⟩
  rw [e0]
  have G0 : w.heap.size ≤ b0 := by omega
  clear e0
  have ⟨L0, C0, F0⟩ := B0
  have hkW : Kept [] w W := (Kept.refl _ _).call hB
  by_cases h0 : n5 = 0
  · subst h0
    have hE : Hid (v = mn) := by
      show _ = _
      have : path = [] := List.eq_nil_of_length_eq_zero HN.out
      subst this
      rw [← HV.out]
      rfl
    go_wp2_with fail
    go_ret
    exact ⟨by rw [hE.out]; rfl, hB⟩
  have y1 : ((n5 : Int) == 0) = false := by simp; omega
  have y2 : (n5 == 0) = false := by simp; omega
  obtain ⟨b5, o5, rfl, hl5, hc5⟩ := HP.out.2 (by omega)
  have hpj := HPI.out (n5 - 1) (by rw [HN.out]; omega)
  obtain ⟨k, hk⟩ := Int.eq_ofNat_of_zero_le hpj.1
  have hk2 : k < n2 := by have := HE.out.1; omega
  obtain ⟨b2, o2, rfl, hl2, hc2f⟩ := HE.out.2 (by omega)
  have hc2e := (hkW.cell b2 _ hl2 (by simp)).trans (hc2f k hk2).2.1
  have r5 : W.cell? ⟨b5, o5 + (n5 - 1), none⟩ = some (.int .i64 k) := by rw [← hk]; exact (hkW.cell b5 _ hl5 (by simp)).trans (hc5 (n5 - 1) (by omega))
  have hE : Hid ((ge es k).b = v) := by
    show _ = _
    rw [← HV.out, endS_last path mn (by rw [HN.out]; omega), HN.out, hk]
    rfl
  rw [hE.out] at hc2e
  have hl5r : b5 < W.heap.size := Nat.lt_of_lt_of_le hl5 hkW.size
  have hl2r : b2 < W.heap.size := Nat.lt_of_lt_of_le hl2 hkW.size
  have hk2' : (k : Int) < (n2 : Int) := by omega
  have w3 : IntKind.i64.wrap ((n5 : Int) - 1) = (n5 : Int) - 1 := IntWalk.i64_in _ (by omega)
  have w4 : (0 : Int) ≤ (n5 : Int) - 1 := by omega
  have w5 : ((n5 : Int) - 1).toNat = n5 - 1 := by omega
  have w7 : (n5 : Int) - 1 < (n5 : Int) := by omega
  have w9 : 1 ≤ n5 := by omega
  have w10 : (1 : Int) ≤ (n5 : Int) := by omega
  clear hk hpj hc5 h0
  go_upto_region 3 with fail
  go_quiet (fail)
  go_wp2_with fail
  go_ret
  exact ⟨rfl, (hkW.drewN _).toBelow⟩

set_option maxRecDepth 100000 in
set_option maxHeartbeats 8000000 in
theorem pMeet_any (A1 A2 A3 A4 A6 : Option Addr) (n1 c1 n2 c2 n3 c3 n4 c4 n6 c6 : Nat) (mn F : Int) (ns : List Sp.Nd) (es : List Sp.Ed) (ls : List (List Pr)) (sd : List Sd) (ps : Nat → List Int) (w : World) (hg : Gr w A1 n1 A2 n2 ns es) (hf : Flw w A3 n3 ls) (hs : Sds w A4 n4 sd) (hp : Pths w A6 n6 ps) (hn6 : n6 ≤ 6) (hn4 : n4 ≤ 1000) (hc4 : n4 ≤ c4)
    (er : Int) (her : mtErr ⟨ns, es, mn, F, ls, sd⟩ n6 ps = er) :
    Calls Try.prog 46 #[.agg #[.slice A1 n1 c1, .slice A2 n2 c2, .int .i64 mn, .int .i64 F, .slice A3 n3 c3, .slice A4 n4 c4], .slice A6 n6 c6] w fun e w' =>
      ((er ≠ 0 ∧ e = .returned (.tuple #[.slice none 0 0, .int .i64 er])) ∨ (er = 0 ∧ ∃ Q m c, e = .returned (.tuple #[.slice Q m c, .int .i64 0]) ∧ Ints w' Q m (mtF ⟨ns, es, mn, F, ls, sd⟩ ps n6) ∧ m ≤ c)) ∧ Below w.heap.size w w' := by
  have HG := Lib.hid hg
  have HF := Lib.hid hf
  have HS := Lib.hid hs
  have HP := Lib.hid hp
  have HER := Lib.hid her
  clear hg hf hs hp her
  go_enter Try.func46, Try.ntmps46
  go_upto_region 1 with fail
  refine wp_named (fun W => ∃ b0, w.heap.size = b0 ∧ Blk W b0 [.slice A1 n1 c1, .slice A2 n2 c2, .int .i64 mn, .int .i64 F, .slice A3 n3 c3, .slice A4 n4 c4] ∧ Below w.heap.size w W) ⟨_, rfl, ?_, ?_⟩ ?_
  · exact Blk.new _ _ _ _ (by first | rfl | simp)
  · go_grown
  rintro W ⟨b0, e0, B0, hB⟩
  rw [e0]
  have G0 : w.heap.size ≤ b0 := by omega
  clear e0
  have ⟨L0, C0, F0⟩ := B0
  have hkW : Kept [] w W := (Kept.refl _ _).call hB
  obtain ⟨ie, hie⟩ : ∃ ie, pbErr ⟨ns, es, mn, F, ls, sd⟩ = ie := ⟨_, rfl⟩
  have HIE := Lib.hid hie
  clear hie
  go_upto_region 2 with (go_at_call 24; refine (ifdsck_any A1 A2 A3 A4 n1 c1 n2 c2 n3 c3 n4 c4 mn F ns es ls sd _ (HG.out.nd.later hB) (HG.out.ed.later hB) (HF.out.later hB) (HS.out.later hB) (by omega) HG.out.wn HG.out.we).mono ?_; rw [HIE.out]; rintro e w1 ⟨rfl, hb1⟩)
  have hk1 : Kept [] W w1 := (Kept.refl _ _).call hb1
  have hkw1 : Kept [] w w1 := keptTrans hkW hk1
  have ⟨L1, C1, F1⟩ := hk1.blk (by simp) B0
  clear C0 F0
  by_cases h0 : ie = 0
  case neg =>
    have h0' : (ie != 0) = true := by simpa using h0
    have hE : Hid (er = ie) := by show _ = _; rw [← HER.out]; unfold mtErr; rw [HIE.out, if_pos h0]
    have h0n : Hid (er ≠ 0) := by show _ ≠ _; rw [hE.out]; exact h0
    clear h0
    go_wp2_with fail
    go_ret2
    exact ⟨.inl ⟨h0n.out, by rw [hE.out]; rfl⟩, hkw1.toBelow⟩
  subst h0
  have hE : Hid (er = Go.Df.Sp.fe (pthErr ns es mn ps) 0 n6) := by show _ = _; rw [← HER.out]; unfold mtErr; rw [HIE.out, if_neg (by simp)]
  have HO := Lib.hid (ok_of HIE.out)
  obtain ⟨en0, hen0⟩ : ∃ x, (Sp.followS ns es mn mn (ps 0)).2.1 = x := ⟨_, rfl⟩
  have HEN0 := Lib.hid hen0
  clear hen0
  go_wp2_with fail
  clear C1 F1
  go_loopw [7, 22] (fun s7 s22 wr => ∃ (i : Nat) (cm : Int), i ≤ n6 ∧ s22 = .int .i64 i ∧ s7 = .int .i64 cm ∧ Hid (i ≠ 0 → cm = en0) ∧ Kept [] W wr ∧ Hid (∀ x, x < i → pthErr ns es mn ps x = 0)) (fun _ s _ => n6 - (intOf s).toNat)
  case atStart => exact ⟨0, 0, Nat.zero_le _, rfl, rfl, Lib.hid (fun h => absurd rfl h), hk1, Lib.hid (fun x hx => absurd hx (by omega))⟩
  case round =>
    obtain ⟨i, cm, hi, rfl, rfl, hcm, hkr, hall⟩ := hrel
    have hkwr : Kept [] w wr := keptTrans hkW hkr
    have ⟨LR, CR, FR⟩ := hkr.blk (by simp) B0
    by_cases hlt : i < n6
    · obtain ⟨b6, o6, Ai, ni, ci, rfl, hl6, hc6, hpi⟩ := HP.out.row hkwr.toBelow hlt
      have HPI := Lib.hid hpi
      clear hpi
      have hl6r : b6 < wr.heap.size := Nat.lt_of_lt_of_le hl6 hkwr.size
      have hi1 : (i : Int) < (n6 : Int) := by omega
      obtain ⟨fe, fa, fc, hfe⟩ : ∃ a b c, Sp.followS ns es mn mn (ps i) = (a, b, c) := ⟨_, _, _, rfl⟩
      have HFE := Lib.hid hfe
      clear hfe
      have hbad : Hid (∀ e, pthErr ns es mn ps i = e → e ≠ 0 → er = e) := fun e h1 h2 => by rw [hE.out]; exact Go.Df.Sp.fe_hit hall.out hlt h1 h2
      go_upto_region 9 with (go_at_call 52; refine (end_any A1 A2 Ai n1 c1 n2 c2 ni ci mn mn ns es (ps i) _ (HG.out.kept hkwr) (HPI.out.later hkwr.toBelow)).mono ?_; rw [HFE.out]; rintro e w2 ⟨rfl, hb2⟩)
      have hk2 : Kept [] W w2 := hkr.call hb2
      have hkw2 : Kept [] w w2 := keptTrans hkW hk2
      clear CR FR hc6
      by_cases h0 : fe = 0
      case neg =>
        have h0' : (fe != 0) = true := by simpa using h0
        have hX : Hid (er = fe) := hbad.out fe (by unfold pthErr; rw [HFE.out, if_pos h0]) h0
        have h0n : Hid (er ≠ 0) := by show _ ≠ _; rw [hX.out]; exact h0
        clear h0
        go_wp2_with fail
        go_ret2
        exact ⟨.inl ⟨h0n.out, by rw [hX.out]; rfl⟩, hkw2.toBelow⟩
      subst h0
      by_cases hi0 : i = 0
      · subst hi0
        obtain rfl : fa = en0 := by have := HEN0.out; rw [HFE.out] at this; exact this
        have hfin : Hid (∀ x, x < 0 + 1 → pthErr ns es mn ps x = 0) := fun x hx => by
          obtain rfl : x = 0 := by omega
          unfold pthErr
          rw [if_neg (by rw [HFE.out]; simp), if_neg (by simp)]
        go_wp2_with fail
        exact ⟨⟨0 + 1, fa, by omega, by go_num, rfl, Lib.hid (fun _ => rfl), hk2, hfin⟩, by simp [intOf]; omega⟩
      · have y1 : ((i : Int) == 0) = false := by simp; omega
        have y2 : (i == 0) = false := by simp; omega
        obtain rfl : cm = en0 := hcm.out hi0
        by_cases hm : fa = cm
        · have hm' : (fa != cm) = false := by simpa using hm
          have hfin : Hid (∀ x, x < i + 1 → pthErr ns es mn ps x = 0) := fun x hx => by
            rcases Nat.lt_or_ge x i with h9 | h9
            · exact hall.out x h9
            · obtain rfl : x = i := by omega
              unfold pthErr
              rw [HFE.out, if_neg (by simp), HEN0.out, if_neg (by simpa using hm)]
          clear hm
          go_wp2_with fail
          exact ⟨⟨i + 1, cm, by omega, by go_num, rfl, Lib.hid (fun _ => rfl), hk2, hfin⟩, by simp [intOf]; omega⟩
        · have hm' : (fa != cm) = true := by simpa using hm
          have hX : Hid (er = 20) := hbad.out 20 (by unfold pthErr; rw [HFE.out, if_neg (by simp), HEN0.out, if_pos hm]) (by omega)
          have h0n : Hid (er ≠ 0) := by show _ ≠ _; rw [hX.out]; omega
          clear hm
          go_wp2_with fail
          go_ret2
          exact ⟨.inl ⟨h0n.out, by rw [hX.out]; rfl⟩, hkw2.toBelow⟩
    · obtain rfl : i = n6 := by omega
      have hE0 : Hid (er = 0) := by show _ = _; rw [hE.out]; exact Go.Df.Sp.fe_ok _ 0 (fun x _ hx => hall.out x (by omega))
      have HPV : Hid (∀ x, x < i → (ps x).length ≤ 4096 ∧ ∀ j, j < (ps x).length → 0 ≤ gi (ps x) j ∧ gi (ps x) j < es.length) := fun x hx => by
        have h9 := hall.out x hx
        unfold pthErr at h9
        split at h9
        · rename_i h8; exact absurd h9 h8
        · rename_i h8
          exact follow_in (Decidable.byContradiction h8)
      go_wp2_with fail
      go_loopw [12, 49] (fun s12 s wp => ∃ (j : Nat) (Q : Option Addr) (m c : Nat), j ≤ i ∧ s = .int .i64 j ∧ s12 = .slice Q m c ∧ Kept [] W wp ∧ m ≤ c ∧ Hid (Ints wp Q m (mtF ⟨ns, es, mn, F, ls, sd⟩ ps j))) (fun _ s _ => i - (intOf s).toNat)
      case atStart => exact ⟨0, none, 0, 0, Nat.zero_le _, rfl, rfl, hkr, by omega, Lib.hid (Ints.empty _ _)⟩
      case round =>
        rename World => wp
        clear CR FR
        obtain ⟨j, Q, m, c, hj, rfl, rfl, hkp, hmc, vp⟩ := hrel
        have hkwp : Kept [] w wp := keptTrans hkW hkp
        have ⟨LP, CP, FP⟩ := hkp.blk (by simp) B0
        by_cases hlt : j < i
        case neg =>
          obtain rfl : j = i := by omega
          go_wp2_with fail
          go_ret2
          exact ⟨.inr ⟨hE0.out, Q, m, c, rfl, vp.out, hmc⟩, hkwp.toBelow⟩
        obtain ⟨b6, o6, Ai, ni, ci, rfl, hl6, hc6, hpi⟩ := HP.out.row hkwp.toBelow hlt
        have HPI := Lib.hid hpi
        clear hpi
        have hl6r : b6 < wp.heap.size := Nat.lt_of_lt_of_le hl6 hkwp.size
        have hi1 : (j : Int) < (i : Int) := by omega
        have HPJ := Lib.hid (HPV.out j hlt)
        have HL1 : Hid ((mtF ⟨ns, es, mn, F, ls, sd⟩ ps j).length ≤ 1024) := Lib.hid (mtF_len HO.out (fun x hx => (HPV.out x (by omega)).2))
        have HL2 : Hid ((alongF ⟨ns, es, mn, F, ls, sd⟩ (ps j)).length ≤ 1024) := Lib.hid (alongF_len2 HO.out HPJ.out.2)
        go_wp2_with (first
          | (go_at_call 86; refine (along_any A1 A2 A3 A4 Ai n1 c1 n2 c2 n3 c3 n4 c4 ni ci mn F ns es ls sd (ps j) _ (HG.out.kept hkwp).ed (HF.out.later hkwp.toBelow) (HS.out.later hkwp.toBelow) (HPI.out.later hkwp.toBelow) hn4 hc4 HO.out HPJ.out.1 HPJ.out.2).mono ?_; rintro e w6 ⟨A7, m7, c7, rfl, hi7, hc7, hb7⟩; have HI7 := Lib.hid hi7; clear hi7)
          | (go_at_call 94; refine (unite_any _ Q A7 m c m7 c7 _ _ _ (Blk.new _ _ _ _ rfl) ((vp.out.later hb7).kept ((Kept.refl _ _).alloc _)) (HI7.out.kept ((Kept.refl _ _).alloc _)) (by have := vp.out.1; have := HL1.out; omega) (by have := HI7.out.1; have := HL2.out; omega)).mono ?_; rintro e w8 ⟨A8, m8, c8, rfl, hi8, hc8, hb8⟩; have HI8 := Lib.hid hi8; clear hi8))
        exact ⟨⟨j + 1, A8, m8, c8, by omega, by go_num, rfl, ((hkp.call hb7).alloc _).call hb8, hc8, HI8⟩, by simp [intOf]; omega⟩

set_option maxRecDepth 100000 in
set_option maxHeartbeats 8000000 in
theorem rMeet_any (A1 A2 A3 A4 A6 : Option Addr) (n1 c1 n2 c2 n3 c3 n4 c4 n6 c6 : Nat) (mn F : Int) (ns : List Sp.Nd) (es : List Sp.Ed) (ls : List (List Pr)) (sd : List Sd) (ps : Nat → List Int) (w : World) (hg : Gr w A1 n1 A2 n2 ns es) (hf : Flw w A3 n3 ls) (hs : Sds w A4 n4 sd) (hp : Pths w A6 n6 ps) (hn6 : n6 ≤ 6) (hn4 : n4 ≤ 1000)
    (er : Int) (her : mtErr ⟨ns, es, mn, F, ls, sd⟩ n6 ps = er) :
    Calls Try.prog 47 #[.agg #[.slice A1 n1 c1, .slice A2 n2 c2, .int .i64 mn, .int .i64 F, .slice A3 n3 c3, .slice A4 n4 c4], .slice A6 n6 c6] w fun e w' =>
      ((er ≠ 0 ∧ e = .returned (.tuple #[.slice none 0 0, .int .i64 er])) ∨ (er = 0 ∧ ∃ Q m c, e = .returned (.tuple #[.slice Q m c, .int .i64 0]) ∧ Ints w' Q m (mtF ⟨ns, es, mn, F, ls, sd⟩ ps n6) ∧ m ≤ c)) ∧ Below w.heap.size w w' := by
  have HG := Lib.hid hg
  have HF := Lib.hid hf
  have HS := Lib.hid hs
  have HP := Lib.hid hp
  have HER := Lib.hid her
  clear hg hf hs hp her
  go_enter Try.func47, Try.ntmps47
  go_upto_region 1 with fail
  refine wp_named (fun W => ∃ b0, w.heap.size = b0 ∧ Blk W b0 [.slice A1 n1 c1, .slice A2 n2 c2, .int .i64 mn, .int .i64 F, .slice A3 n3 c3, .slice A4 n4 c4] ∧ Below w.heap.size w W) ⟨_, rfl, ?_, ?_⟩ ?_
  · exact Blk.new _ _ _ _ (by first | rfl | simp)
  · go_grown
  rintro W ⟨b0, e0, B0, hB⟩
  rw [e0]
  have G0 : w.heap.size ≤ b0 := by omega
  clear e0
  have ⟨L0, C0, F0⟩ := B0
  have hkW : Kept [] w W := (Kept.refl _ _).call hB
  obtain ⟨ie, hie⟩ : ∃ ie, pbErr ⟨ns, es, mn, F, ls, sd⟩ = ie := ⟨_, rfl⟩
  have HIE := Lib.hid hie
  clear hie
  go_upto_region 2 with (go_at_call 25; refine (rifdsck_any A1 A2 A3 A4 n1 c1 n2 c2 n3 c3 n4 c4 mn F ns es ls sd _ (HG.out.nd.later hB) (HG.out.ed.later hB) (HF.out.later hB) (HS.out.later hB) (by omega) HG.out.wn HG.out.we).mono ?_; rw [HIE.out]; rintro e w1 ⟨rfl, hb1⟩)
  have hk1 : Kept [] W w1 := (Kept.refl _ _).call hb1
  have hkw1 : Kept [] w w1 := keptTrans hkW hk1
  have ⟨L1, C1, F1⟩ := hk1.blk (by simp) B0
  clear C0 F0
  by_cases h0 : ie = 0
  case neg =>
    have h0' : (ie != 0) = true := by simpa using h0
    have hE : Hid (er = ie) := by show _ = _; rw [← HER.out]; unfold mtErr; rw [HIE.out, if_pos h0]
    have h0n : Hid (er ≠ 0) := by show _ ≠ _; rw [hE.out]; exact h0
    clear h0
    go_wp2_with fail
    go_ret2
    exact ⟨.inl ⟨h0n.out, by rw [hE.out]; rfl⟩, hkw1.toBelow⟩
  subst h0
  have hE : Hid (er = Go.Df.Sp.fe (pthErr ns es mn ps) 0 n6) := by show _ = _; rw [← HER.out]; unfold mtErr; rw [HIE.out, if_neg (by simp)]
  have HO := Lib.hid (ok_of HIE.out)
  obtain ⟨en0, hen0⟩ : ∃ x, endS es mn (ps 0) = x := ⟨_, rfl⟩
  have HEN0 := Lib.hid hen0
  clear hen0
  go_wp2_with fail
  go_loopw [7, 8] (fun s7 s8 wr => ∃ (i : Nat) (Q : Option Addr) (m c : Nat), i ≤ n6 ∧ s8 = .int .i64 i ∧ s7 = .slice Q m c ∧ Kept [] W wr ∧ Hid (Ints wr Q m (mtF ⟨ns, es, mn, F, ls, sd⟩ ps i)) ∧ m ≤ c ∧ Hid (∀ x, x < i → pthErr ns es mn ps x = 0)) (fun _ s _ => n6 - (intOf s).toNat)
  case atStart => exact ⟨0, none, 0, 0, Nat.zero_le _, rfl, rfl, hk1, Lib.hid (Ints.empty _ _), by omega, Lib.hid (fun x hx => absurd hx (by omega))⟩
  case round =>
    clear C1 F1
    obtain ⟨i, Q, m, cr, hi, rfl, rfl, hkr, vr, hcr, hall⟩ := hrel
    have hkwr : Kept [] w wr := keptTrans hkW hkr
    have ⟨LR, CR, FR⟩ := hkr.blk (by simp) B0
    by_cases hlt : i < n6
    case neg =>
      obtain rfl : i = n6 := by omega
      have hE0 : Hid (er = 0) := by show _ = _; rw [hE.out]; exact Go.Df.Sp.fe_ok _ 0 (fun x _ hx => hall.out x (by omega))
      go_wp2_with fail
      go_ret2
      exact ⟨.inr ⟨hE0.out, Q, m, cr, rfl, vr.out, hcr⟩, hkwr.toBelow⟩
    obtain ⟨b6, o6, Ai, ni, ci, rfl, hl6, hc6, hpi⟩ := HP.out.row hkwr.toBelow hlt
    have HPI := Lib.hid hpi
    clear hpi
    have hl6r : b6 < wr.heap.size := Nat.lt_of_lt_of_le hl6 hkwr.size
    have hi1 : (i : Int) < (n6 : Int) := by omega
    obtain ⟨fe, fa, fc, hfe⟩ : ∃ a b c, Sp.followS ns es mn mn (ps i) = (a, b, c) := ⟨_, _, _, rfl⟩
    have HFE := Lib.hid hfe
    clear hfe
    have hbad : Hid (∀ e, pthErr ns es mn ps i = e → e ≠ 0 → er = e) := fun e h1 h2 => by rw [hE.out]; exact Go.Df.Sp.fe_hit hall.out hlt h1 h2
    go_upto_region 8 with fail
    refine wp_region_E 10 (fun w' => SX0 wr w') (by kernel_rfl) (by (repeat' first | (with_reducible assumption) | (with_reducible exact SX0.init _) | (with_reducible exact SX0.refl _) | (with_reducible refine SX0.alloc ?_ _) | (with_reducible refine SX0.call ?_ (by assumption)) | (with_reducible refine SX0.set ?_ _ _ _ ?_) | (with_reducible refine SX0.drew ?_) | (simp; done) | omega | (simp; omega))) (fun hHeld => ?_)
    refine WE_take 0 (v := ?_) rfl (by kernel_rfl) (fun _ _ _ h => h) (Or.inl ⟨by rfl, ?_⟩) (by assumption) ?_; rotate_left; (· intro w9 hSw; (try dsimp only at hSw); go_simp; try with_reducible rfl); (try simp only [Act.put, List.setIfInBounds_toArray, List.set_cons_zero, List.set_cons_succ])
    refine WE_take 1 (v := ?_) rfl (by kernel_rfl) (fun _ _ _ h => h) (Or.inl ⟨by rfl, ?_⟩) (by assumption) ?_; rotate_left; (· intro w9 hSw; (try dsimp only at hSw); go_simp; try with_reducible rfl); (try simp only [Act.put, List.setIfInBounds_toArray, List.set_cons_zero, List.set_cons_succ])
    refine WE_take 2 (v := ?_) rfl (by kernel_rfl) (fun _ _ _ h => h) (Or.inl ⟨by rfl, ?_⟩) (by assumption) ?_; rotate_left; (· intro w9 hSw; (try dsimp only at hSw); go_simp; try with_reducible rfl); (try simp only [Act.put, List.setIfInBounds_toArray, List.set_cons_zero, List.set_cons_succ])
    refine WE_take 3 (v := ?_) rfl (by kernel_rfl) (fun _ _ _ h => h) (Or.inl ⟨by rfl, ?_⟩) (by assumption) ?_; rotate_left; (· intro w9 hSw; (try dsimp only at hSw); go_simp; try with_reducible rfl); (try simp only [Act.put, List.setIfInBounds_toArray, List.set_cons_zero, List.set_cons_succ])
    refine WE_take 4 (v := ?_) rfl (by kernel_rfl) (fun _ _ _ h => h) (Or.inl ⟨by rfl, ?_⟩) (by assumption) ?_; rotate_left; (· intro w9 hSw; (try dsimp only at hSw); go_simp; try with_reducible rfl); (try simp only [Act.put, List.setIfInBounds_toArray, List.set_cons_zero, List.set_cons_succ])
    refine WE_take 5 (v := ?_) rfl (by kernel_rfl) (fun _ _ _ h => h) (Or.inl ⟨by rfl, ?_⟩) (by assumption) ?_; rotate_left; (· intro w9 hSw; (try dsimp only at hSw); go_simp; try with_reducible rfl); (try simp only [Act.put, List.setIfInBounds_toArray, List.set_cons_zero, List.set_cons_succ])
    refine WE_take 6 (v := ?_) rfl (by kernel_rfl) (fun _ _ _ h => h) (Or.inl ⟨by rfl, ?_⟩) (by assumption) ?_; rotate_left; (· intro w9 hSw; (try dsimp only at hSw); go_simp; try with_reducible rfl); (try simp only [Act.put, List.setIfInBounds_toArray, List.set_cons_zero, List.set_cons_succ])
    refine WE_take 7 (v := ?_) rfl (by kernel_rfl) (fun _ _ _ h => h) (Or.inl ⟨by rfl, ?_⟩) (by assumption) ?_; rotate_left; (· intro w9 hSw; (try dsimp only at hSw); go_simp; try with_reducible rfl); (try simp only [Act.put, List.setIfInBounds_toArray, List.set_cons_zero, List.set_cons_succ])
    refine WE_take 8 (v := ?_) rfl (by kernel_rfl) (fun _ _ _ h => h) (Or.inl ⟨by rfl, ?_⟩) (by assumption) ?_; rotate_left; (· intro w9 hSw; (try dsimp only at hSw); go_simp; try with_reducible rfl); (try simp only [Act.put, List.setIfInBounds_toArray, List.set_cons_zero, List.set_cons_succ])
    refine WE_step 9 rfl (by kernel_rfl) (fun K hK => ?_)
    go_simp
    (go_at_call 19; refine (rcheck_any A1 A2 Ai n1 c1 n2 c2 ni ci mn mn ns es (ps i) _ (HG.out.kept hkwr.drew) (HPI.out.later (hkwr.drew).toBelow) fe fa fc HFE.out).mono ?_; rintro e w3 ⟨rfl, hb3⟩)
    (try go_wp2_with fail)
    refine hK.out _ _ ?_ (fun hHeld => ?_)
    · (repeat' first | (with_reducible assumption) | (with_reducible exact SX0.init _) | (with_reducible exact SX0.refl _) | (with_reducible refine SX0.alloc ?_ _) | (with_reducible refine SX0.call ?_ (by assumption)) | (with_reducible refine SX0.set ?_ _ _ _ ?_) | (with_reducible refine SX0.drew ?_) | (simp; done) | omega | (simp; omega))
    clear hK K
    try simp only [Act.put, List.setIfInBounds_toArray, List.set_cons_zero, List.set_cons_succ]
    refine WE_last rfl (by kernel_rfl) (fun K hK => ?_)
    go_simp
    refine hK.out _ _ ?_
    clear hK K
    have hk3 : Kept [] wr w3 := hHeld.1
    have hkW3 : Kept [] W w3 := keptTrans hkr hk3
    have hkw3 : Kept [] w w3 := keptTrans hkwr hk3
    have ⟨L3, C3, F3⟩ := hkW3.blk (by simp) B0
    have r6 : w3.cell? ⟨b6, o6 + i, none⟩ = some (.slice Ai ni ci) := (hk3.cell b6 _ hl6r (by simp)).trans hc6
    have V3 := Lib.hid (vr.out.kept hk3)
    have hl63 : b6 < w3.heap.size := Nat.lt_of_lt_of_le hl6r hk3.size
    clear CR FR hc6 hHeld vr
    by_cases h0 : fe = 0
    case neg =>
      have h0' : (fe != 0) = true := by simpa using h0
      have hX : Hid (er = fe) := hbad.out fe (by unfold pthErr; rw [HFE.out, if_pos h0]) h0
      have h0n : Hid (er ≠ 0) := by show _ ≠ _; rw [hX.out]; exact h0
      clear h0
      go_wp2_with fail
      go_ret2
      exact ⟨.inl ⟨h0n.out, by rw [hX.out]; rfl⟩, hkw3.toBelow⟩
    subst h0
    have HPV : Hid ((ps i).length ≤ 4096 ∧ ∀ j, j < (ps i).length → 0 ≤ gi (ps i) j ∧ gi (ps i) j < es.length) := Lib.hid (follow_in (ns := ns) (mn := mn) (fr := mn) (by rw [HFE.out]))
    have HP0 : Hid ((ps 0).length ≤ 4096 ∧ ∀ j, j < (ps 0).length → 0 ≤ gi (ps 0) j ∧ gi (ps 0) j < es.length) := by
      rcases Nat.eq_zero_or_pos i with h9 | h9
      · subst h9; exact HPV
      · have h8 := hall.out 0 h9
        unfold pthErr at h8
        split at h8
        · rename_i h7; exact absurd h8 h7
        · rename_i h7
          exact Lib.hid (follow_in (ns := ns) (mn := mn) (fr := mn) (Decidable.byContradiction h7))
    have HF0 : Hid ((Sp.followS ns es mn mn (ps 0)).2.1 = en0) := by
      show _ = _
      rw [← HEN0.out]
      refine follow_end ?_
      rcases Nat.eq_zero_or_pos i with h9 | h9
      · subst h9; rw [HFE.out]
      · have h8 := hall.out 0 h9
        unfold pthErr at h8
        split at h8
        · rename_i h7; exact absurd h8 h7
        · rename_i h7
          exact Decidable.byContradiction h7
    obtain rfl : endS es mn (ps i) = fa := by
      rw [← follow_end (ns := ns) (by rw [HFE.out]), HFE.out]
    obtain ⟨fa, hfa⟩ : ∃ fa, endS es mn (ps i) = fa := ⟨_, rfl⟩
    rw [hfa] at HFE
    have HFA := Lib.hid hfa
    clear hfa
    obtain ⟨b0', o0', A0, n0, c0, e0, hl0, hc0, hp0⟩ := HP.out.row hkw3.toBelow (show 0 < n6 by omega)
    injection e0 with e0
    injection e0 with e0 e0'
    subst e0 e0'
    rw [Nat.add_zero] at hc0
    have HPI0 := Lib.hid hp0
    have hn60 : (0 : Int) < (n6 : Int) := by omega
    have hn60' : 0 < n6 := by omega
    clear hp0 hl0
    have hEnds : Hid ((if fa ≠ en0 then (20 : Int) else 0) = pthErr ns es mn ps i) := by
      show _ = _
      symm
      unfold pthErr
      rw [HFE.out, if_neg (by simp), HF0.out]
    by_cases hm : fa = en0
    case neg =>
      have hm' : (fa != en0) = true := by simpa using hm
      have hX : Hid (er = 20) := hbad.out 20 (by rw [← hEnds.out, if_pos hm]) (by omega)
      have h0n : Hid (er ≠ 0) := by show _ ≠ _; rw [hX.out]; omega
      clear hm
      go_upto_region 11 with fail
      refine wp_region_E 13 (fun w' => SX0 w3 w') (by kernel_rfl) (by (repeat' first | (with_reducible assumption) | (with_reducible exact SX0.init _) | (with_reducible exact SX0.refl _) | (with_reducible refine SX0.alloc ?_ _) | (with_reducible refine SX0.call ?_ (by assumption)) | (with_reducible refine SX0.set ?_ _ _ _ ?_) | (with_reducible refine SX0.drew ?_) | (simp; done) | omega | (simp; omega))) (fun hHeld => ?_)
      refine WE_take 0 (v := ?_) rfl (by kernel_rfl) (fun _ _ _ h => h) (Or.inl ⟨by rfl, ?_⟩) (by assumption) ?_; rotate_left; (· intro w9 hSw; (try dsimp only at hSw); go_simp; try with_reducible rfl); (try simp only [Act.put, List.setIfInBounds_toArray, List.set_cons_zero, List.set_cons_succ])
      refine WE_take 1 (v := ?_) rfl (by kernel_rfl) (fun _ _ _ h => h) (Or.inl ⟨by rfl, ?_⟩) (by assumption) ?_; rotate_left; (· intro w9 hSw; (try dsimp only at hSw); go_simp; try with_reducible rfl); (try simp only [Act.put, List.setIfInBounds_toArray, List.set_cons_zero, List.set_cons_succ])
      refine WE_take 2 (v := ?_) rfl (by kernel_rfl) (fun _ _ _ h => h) (Or.inl ⟨by rfl, ?_⟩) (by assumption) ?_; rotate_left; (· intro w9 hSw; (try dsimp only at hSw); go_simp; try with_reducible rfl); (try simp only [Act.put, List.setIfInBounds_toArray, List.set_cons_zero, List.set_cons_succ])
      refine WE_take 3 (v := ?_) rfl (by kernel_rfl) (fun _ _ _ h => h) (Or.inl ⟨by rfl, ?_⟩) (by assumption) ?_; rotate_left; (· intro w9 hSw; (try dsimp only at hSw); go_simp; try with_reducible rfl); (try simp only [Act.put, List.setIfInBounds_toArray, List.set_cons_zero, List.set_cons_succ])
      refine WE_take 4 (v := ?_) rfl (by kernel_rfl) (fun _ _ _ h => h) (Or.inl ⟨by rfl, ?_⟩) (by assumption) ?_; rotate_left; (· intro w9 hSw; (try dsimp only at hSw); go_simp; try with_reducible rfl); (try simp only [Act.put, List.setIfInBounds_toArray, List.set_cons_zero, List.set_cons_succ])
      refine WE_take 5 (v := ?_) rfl (by kernel_rfl) (fun _ _ _ h => h) (Or.inl ⟨by rfl, ?_⟩) (by assumption) ?_; rotate_left; (· intro w9 hSw; (try dsimp only at hSw); go_simp; try with_reducible rfl); (try simp only [Act.put, List.setIfInBounds_toArray, List.set_cons_zero, List.set_cons_succ])
      refine WE_take 7 (v := ?_) rfl (by kernel_rfl) (fun _ _ _ h => h) (Or.inl ⟨by rfl, ?_⟩) (by assumption) ?_; rotate_left; (· intro w9 hSw; (try dsimp only at hSw); go_simp; try with_reducible rfl); (try simp only [Act.put, List.setIfInBounds_toArray, List.set_cons_zero, List.set_cons_succ])
      refine WE_take 8 (v := ?_) rfl (by kernel_rfl) (fun _ _ _ h => h) (Or.inl ⟨by rfl, ?_⟩) (by assumption) ?_; rotate_left; (· intro w9 hSw; (try dsimp only at hSw); go_simp; try with_reducible rfl); (try simp only [Act.put, List.setIfInBounds_toArray, List.set_cons_zero, List.set_cons_succ])
      refine WE_take 9 (v := ?_) rfl (by kernel_rfl) (fun _ _ _ h => h) (Or.inl ⟨by rfl, ?_⟩) (by assumption) ?_; rotate_left; (· intro w9 hSw; (try dsimp only at hSw); go_simp; try with_reducible rfl); (try simp only [Act.put, List.setIfInBounds_toArray, List.set_cons_zero, List.set_cons_succ])
      refine WE_take 10 (v := ?_) rfl (by kernel_rfl) (fun _ _ _ h => h) (Or.inl ⟨by rfl, ?_⟩) (by assumption) ?_; rotate_left; (· intro w9 hSw; (try dsimp only at hSw); go_simp; try with_reducible rfl); (try simp only [Act.put, List.setIfInBounds_toArray, List.set_cons_zero, List.set_cons_succ])
      refine WE_take 11 (v := ?_) rfl (by kernel_rfl) (fun _ _ _ h => h) (Or.inl ⟨by rfl, ?_⟩) (by assumption) ?_; rotate_left; (· intro w9 hSw; (try dsimp only at hSw); go_simp; try with_reducible rfl); (try simp only [Act.put, List.setIfInBounds_toArray, List.set_cons_zero, List.set_cons_succ])
      refine WE_step 6 rfl (by kernel_rfl) (fun K hK => ?_)
      go_simp
      (first | (go_at_call 95; with_reducible refine (rend31_any A1 A2 Ai n1 c1 n2 c2 ni ci mn es (ps i) _ (HG.out.kept hkw3.drew).ed (HPI.out.later (hkw3.drew).toBelow) HPV.out.2 HPV.out.1 fa HFA.out).mono ?_; rintro e w4 ⟨rfl, hb4⟩; have HK4 := Lib.hid ((hkw3.drew).call hb4)) | (go_at_call 95; refine (rend31_any A1 A2 A0 n1 c1 n2 c2 n0 c0 mn es (ps 0) _ (HG.out.kept HK4.out).ed (HPI0.out.later HK4.out.toBelow) HP0.out.2 HP0.out.1 en0 HEN0.out).mono ?_; rintro e w5 ⟨rfl, hb5⟩))
      (try go_wp2_with fail)
      refine hK.out _ _ ?_ (fun hHeld => ?_)
      · (repeat' first | (with_reducible assumption) | (with_reducible exact SX0.init _) | (with_reducible exact SX0.refl _) | (with_reducible refine SX0.alloc ?_ _) | (with_reducible refine SX0.call ?_ (by assumption)) | (with_reducible refine SX0.set ?_ _ _ _ ?_) | (with_reducible refine SX0.drew ?_) | (simp; done) | omega | (simp; omega))
      clear hK K
      try simp only [Act.put, List.setIfInBounds_toArray, List.set_cons_zero, List.set_cons_succ]
      refine WE_step 12 rfl (by kernel_rfl) (fun K hK => ?_)
      go_simp
      (first | (go_at_call 95; with_reducible refine (rend31_any A1 A2 Ai n1 c1 n2 c2 ni ci mn es (ps i) _ (HG.out.kept hkw3.drew).ed (HPI.out.later (hkw3.drew).toBelow) HPV.out.2 HPV.out.1 fa HFA.out).mono ?_; rintro e w4 ⟨rfl, hb4⟩; have HK4 := Lib.hid ((hkw3.drew).call hb4)) | (go_at_call 95; refine (rend31_any A1 A2 A0 n1 c1 n2 c2 n0 c0 mn es (ps 0) _ (HG.out.kept HK4.out).ed (HPI0.out.later HK4.out.toBelow) HP0.out.2 HP0.out.1 en0 HEN0.out).mono ?_; rintro e w5 ⟨rfl, hb5⟩))
      (try go_wp2_with fail)
      refine hK.out _ _ ?_ (fun hHeld => ?_)
      · (repeat' first | (with_reducible assumption) | (with_reducible exact SX0.init _) | (with_reducible exact SX0.refl _) | (with_reducible refine SX0.alloc ?_ _) | (with_reducible refine SX0.call ?_ (by assumption)) | (with_reducible refine SX0.set ?_ _ _ _ ?_) | (with_reducible refine SX0.drew ?_) | (simp; done) | omega | (simp; omega))
      clear hK K
      try simp only [Act.put, List.setIfInBounds_toArray, List.set_cons_zero, List.set_cons_succ]
      refine WE_last rfl (by kernel_rfl) (fun K hK => ?_)
      go_simp
      refine hK.out _ _ ?_
      clear hK K
      have hk5 : Kept [] w3 w5 := hHeld.1
      go_wp2_with fail
      go_ret2
      exact ⟨.inl ⟨h0n.out, by rw [hX.out]; rfl⟩, (keptTrans hkw3 hk5).toBelow⟩
    have hm' : (fa != en0) = false := by simpa using hm
    have hfin : Hid (∀ x, x < i + 1 → pthErr ns es mn ps x = 0) := fun x hx => by
      rcases Nat.lt_or_ge x i with h9 | h9
      · exact hall.out x h9
      · obtain rfl : x = i := by omega
        rw [← hEnds.out, if_neg (not_not_intro hm)]
    clear hm
    go_upto_region 11 with fail
    refine wp_region_E 13 (fun w' => SX0 w3 w') (by kernel_rfl) (by (repeat' first | (with_reducible assumption) | (with_reducible exact SX0.init _) | (with_reducible exact SX0.refl _) | (with_reducible refine SX0.alloc ?_ _) | (with_reducible refine SX0.call ?_ (by assumption)) | (with_reducible refine SX0.set ?_ _ _ _ ?_) | (with_reducible refine SX0.drew ?_) | (simp; done) | omega | (simp; omega))) (fun hHeld => ?_)
    refine WE_take 0 (v := ?_) rfl (by kernel_rfl) (fun _ _ _ h => h) (Or.inl ⟨by rfl, ?_⟩) (by assumption) ?_; rotate_left; (· intro w9 hSw; (try dsimp only at hSw); go_simp; try with_reducible rfl); (try simp only [Act.put, List.setIfInBounds_toArray, List.set_cons_zero, List.set_cons_succ])
    refine WE_take 1 (v := ?_) rfl (by kernel_rfl) (fun _ _ _ h => h) (Or.inl ⟨by rfl, ?_⟩) (by assumption) ?_; rotate_left; (· intro w9 hSw; (try dsimp only at hSw); go_simp; try with_reducible rfl); (try simp only [Act.put, List.setIfInBounds_toArray, List.set_cons_zero, List.set_cons_succ])
    refine WE_take 2 (v := ?_) rfl (by kernel_rfl) (fun _ _ _ h => h) (Or.inl ⟨by rfl, ?_⟩) (by assumption) ?_; rotate_left; (· intro w9 hSw; (try dsimp only at hSw); go_simp; try with_reducible rfl); (try simp only [Act.put, List.setIfInBounds_toArray, List.set_cons_zero, List.set_cons_succ])
    refine WE_take 3 (v := ?_) rfl (by kernel_rfl) (fun _ _ _ h => h) (Or.inl ⟨by rfl, ?_⟩) (by assumption) ?_; rotate_left; (· intro w9 hSw; (try dsimp only at hSw); go_simp; try with_reducible rfl); (try simp only [Act.put, List.setIfInBounds_toArray, List.set_cons_zero, List.set_cons_succ])
    refine WE_take 4 (v := ?_) rfl (by kernel_rfl) (fun _ _ _ h => h) (Or.inl ⟨by rfl, ?_⟩) (by assumption) ?_; rotate_left; (· intro w9 hSw; (try dsimp only at hSw); go_simp; try with_reducible rfl); (try simp only [Act.put, List.setIfInBounds_toArray, List.set_cons_zero, List.set_cons_succ])
    refine WE_take 5 (v := ?_) rfl (by kernel_rfl) (fun _ _ _ h => h) (Or.inl ⟨by rfl, ?_⟩) (by assumption) ?_; rotate_left; (· intro w9 hSw; (try dsimp only at hSw); go_simp; try with_reducible rfl); (try simp only [Act.put, List.setIfInBounds_toArray, List.set_cons_zero, List.set_cons_succ])
    refine WE_take 7 (v := ?_) rfl (by kernel_rfl) (fun _ _ _ h => h) (Or.inl ⟨by rfl, ?_⟩) (by assumption) ?_; rotate_left; (· intro w9 hSw; (try dsimp only at hSw); go_simp; try with_reducible rfl); (try simp only [Act.put, List.setIfInBounds_toArray, List.set_cons_zero, List.set_cons_succ])
    refine WE_take 8 (v := ?_) rfl (by kernel_rfl) (fun _ _ _ h => h) (Or.inl ⟨by rfl, ?_⟩) (by assumption) ?_; rotate_left; (· intro w9 hSw; (try dsimp only at hSw); go_simp; try with_reducible rfl); (try simp only [Act.put, List.setIfInBounds_toArray, List.set_cons_zero, List.set_cons_succ])
    refine WE_take 9 (v := ?_) rfl (by kernel_rfl) (fun _ _ _ h => h) (Or.inl ⟨by rfl, ?_⟩) (by assumption) ?_; rotate_left; (· intro w9 hSw; (try dsimp only at hSw); go_simp; try with_reducible rfl); (try simp only [Act.put, List.setIfInBounds_toArray, List.set_cons_zero, List.set_cons_succ])
    refine WE_take 10 (v := ?_) rfl (by kernel_rfl) (fun _ _ _ h => h) (Or.inl ⟨by rfl, ?_⟩) (by assumption) ?_; rotate_left; (· intro w9 hSw; (try dsimp only at hSw); go_simp; try with_reducible rfl); (try simp only [Act.put, List.setIfInBounds_toArray, List.set_cons_zero, List.set_cons_succ])
    refine WE_take 11 (v := ?_) rfl (by kernel_rfl) (fun _ _ _ h => h) (Or.inl ⟨by rfl, ?_⟩) (by assumption) ?_; rotate_left; (· intro w9 hSw; (try dsimp only at hSw); go_simp; try with_reducible rfl); (try simp only [Act.put, List.setIfInBounds_toArray, List.set_cons_zero, List.set_cons_succ])
    refine WE_step 6 rfl (by kernel_rfl) (fun K hK => ?_)
    go_simp
    (first | (go_at_call 95; with_reducible refine (rend31_any A1 A2 Ai n1 c1 n2 c2 ni ci mn es (ps i) _ (HG.out.kept hkw3.drew).ed (HPI.out.later (hkw3.drew).toBelow) HPV.out.2 HPV.out.1 fa HFA.out).mono ?_; rintro e w4 ⟨rfl, hb4⟩; have HK4 := Lib.hid ((hkw3.drew).call hb4)) | (go_at_call 95; refine (rend31_any A1 A2 A0 n1 c1 n2 c2 n0 c0 mn es (ps 0) _ (HG.out.kept HK4.out).ed (HPI0.out.later HK4.out.toBelow) HP0.out.2 HP0.out.1 en0 HEN0.out).mono ?_; rintro e w5 ⟨rfl, hb5⟩))
    (try go_wp2_with fail)
    refine hK.out _ _ ?_ (fun hHeld => ?_)
    · (repeat' first | (with_reducible assumption) | (with_reducible exact SX0.init _) | (with_reducible exact SX0.refl _) | (with_reducible refine SX0.alloc ?_ _) | (with_reducible refine SX0.call ?_ (by assumption)) | (with_reducible refine SX0.set ?_ _ _ _ ?_) | (with_reducible refine SX0.drew ?_) | (simp; done) | omega | (simp; omega))
    clear hK K
    try simp only [Act.put, List.setIfInBounds_toArray, List.set_cons_zero, List.set_cons_succ]
    refine WE_step 12 rfl (by kernel_rfl) (fun K hK => ?_)
    go_simp
    (first | (go_at_call 95; with_reducible refine (rend31_any A1 A2 Ai n1 c1 n2 c2 ni ci mn es (ps i) _ (HG.out.kept hkw3.drew).ed (HPI.out.later (hkw3.drew).toBelow) HPV.out.2 HPV.out.1 fa HFA.out).mono ?_; rintro e w4 ⟨rfl, hb4⟩; have HK4 := Lib.hid ((hkw3.drew).call hb4)) | (go_at_call 95; refine (rend31_any A1 A2 A0 n1 c1 n2 c2 n0 c0 mn es (ps 0) _ (HG.out.kept HK4.out).ed (HPI0.out.later HK4.out.toBelow) HP0.out.2 HP0.out.1 en0 HEN0.out).mono ?_; rintro e w5 ⟨rfl, hb5⟩))
    (try go_wp2_with fail)
    refine hK.out _ _ ?_ (fun hHeld => ?_)
    · (repeat' first | (with_reducible assumption) | (with_reducible exact SX0.init _) | (with_reducible exact SX0.refl _) | (with_reducible refine SX0.alloc ?_ _) | (with_reducible refine SX0.call ?_ (by assumption)) | (with_reducible refine SX0.set ?_ _ _ _ ?_) | (with_reducible refine SX0.drew ?_) | (simp; done) | omega | (simp; omega))
    clear hK K
    try simp only [Act.put, List.setIfInBounds_toArray, List.set_cons_zero, List.set_cons_succ]
    refine WE_last rfl (by kernel_rfl) (fun K hK => ?_)
    go_simp
    refine hK.out _ _ ?_
    clear hK K
    have hk5 : Kept [] w3 w5 := hHeld.1
    have hkw5 : Kept [] w w5 := keptTrans hkw3 hk5
    have hkW5 : Kept [] W w5 := keptTrans hkW3 hk5
    have ⟨L5, C5, F5⟩ := hkW5.blk (by simp) B0
    have r65 : w5.cell? ⟨b6, o6 + i, none⟩ = some (.slice Ai ni ci) := (hk5.cell b6 _ hl63 (by simp)).trans r6
    have V5 := Lib.hid (V3.out.kept hk5)
    have hl65 : b6 < w5.heap.size := Nat.lt_of_lt_of_le hl63 hk5.size
    clear C3 F3 r6 hc0 hHeld V3 hm'
    have HPA : Hid (∀ x, x < i → (ps x).length ≤ 4096 ∧ ∀ j, j < (ps x).length → 0 ≤ gi (ps x) j ∧ gi (ps x) j < es.length) := fun x hx => by
      have h9 := hall.out x hx
      unfold pthErr at h9
      split at h9
      · rename_i h8; exact absurd h9 h8
      · rename_i h8
        exact follow_in (Decidable.byContradiction h8)
    have HL1 : Hid ((mtF ⟨ns, es, mn, F, ls, sd⟩ ps i).length ≤ 1024) := Lib.hid (mtF_len HO.out (fun x hx => (HPA.out x hx).2))
    have HL2 : Hid ((alongF ⟨ns, es, mn, F, ls, sd⟩ (ps i)).length ≤ 1024) := Lib.hid (alongF_len2 HO.out HPV.out.2)
    go_upto_region 13 with fail
    refine wp_region_E 8 (fun w' => SX0 w5 w') (by kernel_rfl) (by (repeat' first | (with_reducible assumption) | (with_reducible exact SX0.init _) | (with_reducible exact SX0.refl _) | (with_reducible refine SX0.alloc ?_ _) | (with_reducible refine SX0.call ?_ (by assumption)) | (with_reducible refine SX0.set ?_ _ _ _ ?_) | (with_reducible refine SX0.drew ?_) | (simp; done) | omega | (simp; omega))) (fun hHeld => ?_)
    refine WE_take 0 (v := ?_) rfl (by kernel_rfl) (fun _ _ _ h => h) (Or.inl ⟨by rfl, ?_⟩) (by assumption) ?_; rotate_left; (· intro w9 hSw; (try dsimp only at hSw); go_simp; try with_reducible rfl); (try simp only [Act.put, List.setIfInBounds_toArray, List.set_cons_zero, List.set_cons_succ])
    refine WE_take 1 (v := ?_) rfl (by kernel_rfl) (fun _ _ _ h => h) (Or.inl ⟨by rfl, ?_⟩) (by assumption) ?_; rotate_left; (· intro w9 hSw; (try dsimp only at hSw); go_simp; try with_reducible rfl); (try simp only [Act.put, List.setIfInBounds_toArray, List.set_cons_zero, List.set_cons_succ])
    refine WE_take 2 (v := ?_) rfl (by kernel_rfl) (fun _ _ _ h => h) (Or.inl ⟨by rfl, ?_⟩) (by assumption) ?_; rotate_left; (· intro w9 hSw; (try dsimp only at hSw); go_simp; try with_reducible rfl); (try simp only [Act.put, List.setIfInBounds_toArray, List.set_cons_zero, List.set_cons_succ])
    refine WE_take 3 (v := ?_) rfl (by kernel_rfl) (fun _ _ _ h => h) (Or.inl ⟨by rfl, ?_⟩) (by assumption) ?_; rotate_left; (· intro w9 hSw; (try dsimp only at hSw); go_simp; try with_reducible rfl); (try simp only [Act.put, List.setIfInBounds_toArray, List.set_cons_zero, List.set_cons_succ])
    refine WE_take 4 (v := ?_) rfl (by kernel_rfl) (fun _ _ _ h => h) (Or.inl ⟨by rfl, ?_⟩) (by assumption) ?_; rotate_left; (· intro w9 hSw; (try dsimp only at hSw); go_simp; try with_reducible rfl); (try simp only [Act.put, List.setIfInBounds_toArray, List.set_cons_zero, List.set_cons_succ])
    refine WE_take 5 (v := ?_) rfl (by kernel_rfl) (fun _ _ _ h => h) (Or.inl ⟨by rfl, ?_⟩) (by assumption) ?_; rotate_left; (· intro w9 hSw; (try dsimp only at hSw); go_simp; try with_reducible rfl); (try simp only [Act.put, List.setIfInBounds_toArray, List.set_cons_zero, List.set_cons_succ])
    refine WE_step 6 rfl (by kernel_rfl) (fun K hK => ?_)
    go_simp
    (first | (go_at_call 87; refine (ralong_any A1 A2 A3 A4 Ai n1 c1 n2 c2 n3 c3 n4 c4 ni ci mn F ns es ls sd (ps i) _ (HG.out.kept hkw5.drew).ed (HF.out.later (hkw5.drew).toBelow) (HS.out.later (hkw5.drew).toBelow) (HPI.out.later (hkw5.drew).toBelow) hn4 HO.out HPV.out.1 HPV.out.2).mono ?_; rintro e w6 ⟨A7, m7, c7, rfl, hi7, hc7, hb6⟩; have HI7 := Lib.hid hi7; have V56 := Lib.hid (V5.out.kept (((Kept.refl [] w5).drew).call hb6)); clear hi7) | (go_at_call 96; refine (rjoin_any Q A7 m cr m7 c7 _ _ _ V56.out HI7.out (by have := V56.out.1; have := HL1.out; omega) (by have := HI7.out.1; have := HL2.out; omega)).mono ?_; rintro e w7 ⟨A8, m8, c8, rfl, hi8, hc8, hb7⟩; have HI8 := Lib.hid hi8; clear hi8))
    (try go_wp2_with fail)
    refine hK.out _ _ ?_ (fun hHeld => ?_)
    · (repeat' first | (with_reducible assumption) | (with_reducible exact SX0.init _) | (with_reducible exact SX0.refl _) | (with_reducible refine SX0.alloc ?_ _) | (with_reducible refine SX0.call ?_ (by assumption)) | (with_reducible refine SX0.set ?_ _ _ _ ?_) | (with_reducible refine SX0.drew ?_) | (simp; done) | omega | (simp; omega))
    clear hK K
    try simp only [Act.put, List.setIfInBounds_toArray, List.set_cons_zero, List.set_cons_succ]
    refine WE_step 7 rfl (by kernel_rfl) (fun K hK => ?_)
    go_simp
    (first | (go_at_call 87; refine (ralong_any A1 A2 A3 A4 Ai n1 c1 n2 c2 n3 c3 n4 c4 ni ci mn F ns es ls sd (ps i) _ (HG.out.kept hkw5.drew).ed (HF.out.later (hkw5.drew).toBelow) (HS.out.later (hkw5.drew).toBelow) (HPI.out.later (hkw5.drew).toBelow) hn4 HO.out HPV.out.1 HPV.out.2).mono ?_; rintro e w6 ⟨A7, m7, c7, rfl, hi7, hc7, hb6⟩; have HI7 := Lib.hid hi7; have V56 := Lib.hid (V5.out.kept (((Kept.refl [] w5).drew).call hb6)); clear hi7) | (go_at_call 96; refine (rjoin_any Q A7 m cr m7 c7 _ _ _ V56.out HI7.out (by have := V56.out.1; have := HL1.out; omega) (by have := HI7.out.1; have := HL2.out; omega)).mono ?_; rintro e w7 ⟨A8, m8, c8, rfl, hi8, hc8, hb7⟩; have HI8 := Lib.hid hi8; clear hi8))
    (try go_wp2_with fail)
    refine hK.out _ _ ?_ (fun hHeld => ?_)
    · (repeat' first | (with_reducible assumption) | (with_reducible exact SX0.init _) | (with_reducible exact SX0.refl _) | (with_reducible refine SX0.alloc ?_ _) | (with_reducible refine SX0.call ?_ (by assumption)) | (with_reducible refine SX0.set ?_ _ _ _ ?_) | (with_reducible refine SX0.drew ?_) | (simp; done) | omega | (simp; omega))
    clear hK K
    try simp only [Act.put, List.setIfInBounds_toArray, List.set_cons_zero, List.set_cons_succ]
    refine WE_last rfl (by kernel_rfl) (fun K hK => ?_)
    go_simp
    refine hK.out _ _ ?_
    clear hK K
    have hk7 : Kept [] w5 w7 := hHeld.1
    go_wp2_with fail
    exact ⟨⟨i + 1, A8, m8, c8, by omega, by go_num, rfl, keptTrans hkW5 hk7, HI8, hc8, hfin⟩, by simp [intOf]; omega⟩
end Go.Proofs.Ytffkikhknabddaa
